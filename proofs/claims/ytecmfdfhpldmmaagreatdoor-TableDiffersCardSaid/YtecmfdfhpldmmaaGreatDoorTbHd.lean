import Derived.Test.YtecmfdfhpldmmaaGreatDoorTbMid
import Derived.Test.YtecmfdfhpldmmaaGreatDoorTbFhead
import Derived.Lib.BufferWrite
import Derived.Lib.AppendStr
/- Table: the bytes of a header. No condition. -/
set_option maxRecDepth 100000
set_option linter.unusedVariables false
set_option linter.unusedSimpArgs false
namespace Go.Proofs.YtecmfdfhpldmmaaGreatDoor
open Go.Sh Go.RowKit

def u8V (b : UInt8) : Value := .int .u8 ((b.toNat : Nat) : Int)
def byteI (n : Int) : UInt8 := UInt8.ofNat (n % 256).toNat
theorem wrap_byte (n : Int) : (Value.int .u8 (IntKind.u8.wrap n)) = u8V (byteI n) := by
  unfold u8V byteI
  rw [IntKind.wrap_u8]
  congr 1
  have : (UInt8.ofNat (n % 256).toNat).toNat = (n % 256).toNat := by simp; omega
  rw [this]; omega
theorem info5 : (Tryz.prog.info? 5).map (fun i => (i.zero, i.size, i.bytes)) = some (some (.int .u8 0), 1, 1) := by kernel_rfl
/-- A row that this call has made. -/
def NewRow (w0 w : World) (s : SV) (l : List UInt8) : Prop := RowAt w 5 1 s (l.map u8V) ∧ ∀ b ∈ blkOf s, w0.heap.size ≤ b
theorem NewRow.len {w0 w : World} {s : SV} {l : List UInt8} (h : NewRow w0 w s l) : s.len = l.length := by have := h.1.1; simp at this; omega
theorem NewRow.pu {w0 w w' : World} {s : SV} {l : List UInt8} (h : NewRow w0 w s l) (hp : Pu w w') : NewRow w0 w' s l := ⟨h.1.pu hp, h.2⟩
theorem NewRow.nil (w0 w : World) : NewRow w0 w ⟨none, 0, 0⟩ [] := ⟨RowAt.nil w 5 1, by simp [blkOf]⟩
theorem NewRow.fr {B : Nat → Prop} {w0 w w' : World} {s : SV} {l : List UInt8} (h : NewRow w0 w s l) (hf : Fr B w w') (hn : ∀ k ∈ blkOf s, ¬ B k) : NewRow w0 w' s l := ⟨h.1.fr hf hn, h.2⟩
theorem NewRow.low {w0 w1 w : World} {s : SV} {l : List UInt8} (h : NewRow w1 w s l) (hz : w0.heap.size ≤ w1.heap.size) : NewRow w0 w s l := ⟨h.1, fun b hb => Nat.le_trans hz (h.2 b hb)⟩
/-- Bytes that lie somewhere are put behind it. -/
theorem NewRow.app {w0 w : World} {s m : SV} {l news : List UInt8} (h : NewRow w0 w s l) (hz : w0.heap.size ≤ w.heap.size) (hl : m.len = news.length) (hn : ∀ (j : Nat) (b : UInt8), news[j]? = some b → ∃ a, m.a = some a ∧ w.cell? (a.add j) = some (u8V b)) (hb : l.length + news.length ≤ 70368744177664) :
    ∃ (s' : SV) (w' : World), (Builtin.append_ #[37, 37] 37 #[.slice s.a s.len s.cap, .slice m.a m.len m.cap]).run Tryz.prog w = .ok (.slice s'.a s'.len s'.cap) w' ∧ NewRow w0 w' s' (l ++ news) ∧ Fr (· ∈ blkOf s) w w' := by
  have h1 := h.len
  obtain ⟨s', w', hr, hrow, hf, hblk, _⟩ := row_append_list (P := Tryz.prog) (ty := 37) u37 info5 rfl h.1 (m := m) (news := news.map u8V) (by simpa using hl) (fun j u hu => by
    obtain ⟨b, hb, rfl⟩ : ∃ b, news[j]? = some b ∧ u8V b = u := by simpa using hu
    exact hn j b hb) (fun u hu => by simp at hu; obtain ⟨x, _, rfl⟩ := hu; rfl) (by omega)
  refine ⟨s', w', hr, ⟨by rw [List.map_append]; exact hrow, fun b hb => ?_⟩, hf⟩
  rcases hblk b hb with h2 | h2
  · exact h.2 b h2
  · omega
theorem NewRow.one {w0 w : World} {s : SV} {l : List UInt8} (h : NewRow w0 w s l) (hz : w0.heap.size ≤ w.heap.size) {r : Nat} {b : UInt8} {c : Array Value} (hr : w.heap[r]? = some (.cells c 5)) (hc : c[0]? = some (u8V b)) (hb : l.length ≤ 70368744177663) :
    ∃ (s' : SV) (w' : World), (Builtin.append_ #[37, 37] 37 #[.slice s.a s.len s.cap, .slice (some ⟨r, 0, none⟩) 1 1]).run Tryz.prog w = .ok (.slice s'.a s'.len s'.cap) w' ∧ NewRow w0 w' s' (l ++ [b]) ∧ Fr (· ∈ blkOf s) w w' :=
  h.app hz (m := ⟨some ⟨r, 0, none⟩, 1, 1⟩) (news := [b]) rfl (fun j b' hj => by
    cases j with
    | zero => simp at hj; subst hj; exact ⟨_, rfl, by rw [add0, cell_blk hr]; exact hc⟩
    | succ j => simp at hj) (by simp; omega)
/-- A row in a block of its own. -/
theorem NewRow.box {w0 w : World} {r : Nat} {l : List UInt8} (hr : w.heap[r]? = some (.cells (l.map u8V).toArray 5)) (hz : w0.heap.size ≤ r) (hl : l.length ≤ 140737488355328) : NewRow w0 w ⟨some ⟨r, 0, none⟩, l.length, l.length⟩ l :=
  ⟨⟨by simp, .inr ⟨r, _, rfl, hr, Nat.le_refl _, by show l.length ≤ maxLen; unfold maxLen; omega, by simp, by simp [← List.map_take]⟩⟩, fun b hb => by simp [blkOf] at hb; omega⟩
theorem NewRow.cell {w0 w : World} {s : SV} {l : List UInt8} (h : NewRow w0 w s l) {j : Nat} {b : UInt8} (hj : l[j]? = some b) : ∃ a, s.a = some a ∧ w.cell? (a.add j) = some (u8V b) := by
  obtain ⟨a, h1, h2, _⟩ := h.1.cell (j := j) (v := u8V b) (by rw [List.getElem?_map, hj]; rfl)
  exact ⟨a, h1, h2⟩

/-! ### Numbers of so many bytes -/
def lowN (n k : Nat) : List UInt8 := (List.range k).map fun j => UInt8.ofNat (n / 256 ^ j % 256)
theorem lowN_len (n k : Nat) : (lowN n k).length = k := by simp [lowN]
theorem lowN_succ (n k : Nat) : lowN n (k + 1) = lowN n k ++ [UInt8.ofNat (n / 256 ^ k % 256)] := by simp [lowN, List.range_succ]
theorem byteI_nat (n : Nat) : byteI (n : Int) = UInt8.ofNat (n % 256) := by
  unfold byteI; congr 1
theorem low_c (n k : Nat) (hk : k ≤ 8) (w : World) : Calls Tryz.prog 109 #[.int .i64 (n : Int), .int .i64 (k : Int)] w fun e w' => ∃ s : SV, e = .returned (.slice s.a s.len s.cap) ∧ NewRow w w' s (lowN n k) ∧ Pu w w' := by
  refine F109_calls _ _ w _ ?_
  refine loopUp k (fun j t w' => t.1 = ((n / 256 ^ j : Nat) : Int) ∧ t.2.2 = (j : Int) ∧ NewRow w w' t.2.1 (lowN n j) ∧ Pu w w') ⟨by simp, rfl, NewRow.nil w w, Pu.refl _⟩ ?_
  rintro j J ⟨t1, t2, t3⟩ w2 hj ⟨h1, h3, hr, hp⟩ hJ
  obtain rfl : t1 = ((n / 256 ^ j : Nat) : Int) := h1
  obtain rfl : t3 = (j : Int) := h3
  have hr : NewRow w w2 t2 (lowN n j) := hr
  dsimp only
  refine Br.of (fun d => ?_) (fun d => ?_)
  · have hj2 : j < k := by have := dtrue d; omega
    refine alB fun w3 hp3 hb3 => ?_
    have hz : w.heap.size ≤ w3.heap.size := (hp.trans hp3).size
    obtain ⟨s', w4, e4, hr4, hf4⟩ := (hr.pu hp3).one hz (b := byteI ((n / 256 ^ j : Nat) : Int)) hb3 (by rw [wrap_byte]; rfl) (by rw [lowN_len]; omega)
    refine ⟨s', w4, e4, by omega, ?_⟩
    rw [wrap_in (by omega) (by omega)]
    refine hJ _ _ hj2 ⟨?_, by dsimp only; omega, ?_, (hp.trans hp3).andNew hf4 fun i hi => hr.2 i hi⟩
    · show Int.fdiv ((n / 256 ^ j : Nat) : Int) (2 ^ 8) = _
      rw [Int.fdiv_eq_ediv_of_nonneg _ (by decide), Nat.pow_succ, ← Nat.div_div_eq_div_mul]
      norm_cast
    · dsimp only; rw [lowN_succ, ← byteI_nat]; exact hr4
  · have hj2 : j = k := by have := dfalse d; omega
    subst hj2
    exact ⟨t2, rfl, hr, hp⟩

/-! ### A field of a header -/
def letterB (k : Int) : UInt8 := if k = 1 then 76 else if k = 2 then 78 else if k = 3 then 68 else if k = 4 then 67 else 77
def nullB (b : Bool) : UInt8 := if b then 1 else 0
def fieldS (f : Fld) : List UInt8 := f.name.data.toList ++ List.replicate (10 - f.name.size) 0 ++ [letterB f.kind, byteI f.width, nullB f.null, 0, 0, 0]
def headS (t : Tbl) : List UInt8 := [67, byteI t.page] ++ lowN t.recs.length 4 ++ lowN (13 + 16 * t.fields.length) 2 ++ lowN (wide t.fields).toNat 2 ++ [byteI t.fields.length, 0] ++ t.fields.flatMap fieldS ++ [13]
theorem field_parts {f : Fld} (h : fieldB f = true) : 1 ≤ f.name.size ∧ f.name.size ≤ 10 ∧ ∃ K, kindOf5 f.kind = some K ∧ K.letter = ((letterB f.kind).toNat : Nat) := by
  unfold fieldB at h
  simp only [Bool.and_eq_true] at h
  obtain ⟨hn, hk⟩ := h
  unfold nameB at hn
  simp only [Bool.and_eq_true, decide_eq_true_eq] at hn
  refine ⟨hn.1.1.1, hn.1.1.2, ?_⟩
  rcases kindOf5_cases f.kind with ⟨e, h1⟩ | ⟨e, h1⟩ | ⟨e, h1⟩ | ⟨e, h1⟩ | ⟨e, h1⟩ | ⟨h1, h2, h3, h4, h5, hh⟩
  · exact ⟨_, h1, by rw [e]; rfl⟩
  · exact ⟨_, h1, by rw [e]; rfl⟩
  · exact ⟨_, h1, by rw [e]; rfl⟩
  · exact ⟨_, h1, by rw [e]; rfl⟩
  · exact ⟨_, h1, by rw [e]; rfl⟩
  · rw [kindW_none (by rw [hh]; rfl)] at hk; cases hk
theorem fieldS_len {f : Fld} (h : f.name.size ≤ 10) : (fieldS f).length = 16 := by
  unfold fieldS; simp only [List.length_append, List.length_replicate, size_list, List.length_cons, List.length_nil]; omega
theorem headLen_c (n : Nat) (hn : n ≤ 1000000) (w : World) : Calls Tryz.prog 110 #[.int .i64 (n : Int)] w fun e w' => e = .returned (.int .i64 ((13 + 16 * n : Nat) : Int)) ∧ Pu w w' := by
  refine F110_calls _ w _ ⟨?_, Pu.refl w⟩
  rw [wrap_in (n := 16 * (n : Int)) (by omega) (by omega), wrap_in (by omega) (by omega)]; norm_cast
theorem u123 : Tryz.prog.underlying 123 = some (.array 16 5) := by kernel_rfl
theorem slice123 (r : Nat) (w : World) : (Instr.sliceAt 123 (.pointer (some (⟨r, 0, none⟩ : Addr))) none (some (.int .i64 10)) (some (.int .i64 10))).run Tryz.prog w = .ok (.slice (some ⟨r, 0, none⟩) 10 10) w := by
  have hs : (sizeOf 5).run Tryz.prog w = .ok 1 w := Tryz.sizeOf5 w
  simp [Instr.sliceAt, run_under u123, Instr.sureAddr, hs, Instr.sliceBounds, Instr.sliceBound, asIntOf, Addr.add]
end Go.Proofs.YtecmfdfhpldmmaaGreatDoor

/- Table: the program's header of a table. No condition. -/
set_option maxRecDepth 100000
set_option linter.unusedVariables false
set_option linter.unusedSimpArgs false
namespace Go.Proofs.YtecmfdfhpldmmaaGreatDoor
open Go.Sh Go.RowKit

def hdRest (R : Rt) (r1 r10 : Nat) (l14 : SV) (ds : Ds) (w21 : World) : Prop :=
  ∃ l15 : SV, ∃ w22 : World, (Builtin.append_ #[37, 37] 37 #[.slice (some ⟨r10, 0, none⟩) 2 2, .slice l14.a l14.len l14.cap]).run Tryz.prog w21 = .ok (.slice l15.a l15.len l15.cap) w22 ∧
  ∃ l18 : SV, w22.cell? ((⟨r1, 0, none⟩ : Addr).add 1) = some (.slice l18.a l18.len l18.cap) ∧
  Calls Tryz.prog 110 #[.int .i64 ((l18.len : Nat) : Int)] w22 fun e w23 =>
  ∃ n20 : Int, e = .returned (.int .i64 n20) ∧
  Calls Tryz.prog 109 #[.int .i64 n20, .int .i64 2] w23 fun e w24 =>
  ∃ l21 : SV, e = .returned (.slice l21.a l21.len l21.cap) ∧
  ∃ l22 : SV, ∃ w25 : World, (Builtin.append_ #[37, 37] 37 #[.slice l15.a l15.len l15.cap, .slice l21.a l21.len l21.cap]).run Tryz.prog w24 = .ok (.slice l22.a l22.len l22.cap) w25 ∧
  ∃ l25 : SV, w25.cell? ((⟨r1, 0, none⟩ : Addr).add 1) = some (.slice l25.a l25.len l25.cap) ∧
  Calls Tryz.prog 69 #[.slice l25.a l25.len l25.cap] w25 fun e w26 =>
  ∃ n26 : Int, e = .returned (.int .i64 n26) ∧
  Calls Tryz.prog 109 #[.int .i64 n26, .int .i64 2] w26 fun e w27 =>
  ∃ l27 : SV, e = .returned (.slice l27.a l27.len l27.cap) ∧
  ∃ l28 : SV, ∃ w28 : World, (Builtin.append_ #[37, 37] 37 #[.slice l22.a l22.len l22.cap, .slice l27.a l27.len l27.cap]).run Tryz.prog w27 = .ok (.slice l28.a l28.len l28.cap) w28 ∧
  ∃ l31 : SV, w28.cell? ((⟨r1, 0, none⟩ : Addr).add 1) = some (.slice l31.a l31.len l31.cap) ∧
  alE (.cells #[.int .u8 (IntKind.u8.wrap ((l31.len : Nat) : Int)), .int .u8 0] 5) w28 fun r34 w29 =>
  ∃ l35 : SV, ∃ w30 : World, (Builtin.append_ #[37, 37] 37 #[.slice l28.a l28.len l28.cap, .slice (some ⟨r34, 0, none⟩) 2 2]).run Tryz.prog w29 = .ok (.slice l35.a l35.len l35.cap) w30 ∧
  ∃ l37 : SV, w30.cell? ((⟨r1, 0, none⟩ : Addr).add 1) = some (.slice l37.a l37.len l37.cap) ∧
  F62_4 R l35 l37 ((l37.len : Nat) : Int) 0 ds w30

theorem flatMap_take {l : List Fld} {k : Nat} {f : Fld} (h : l[k]? = some f) : (l.take (k + 1)).flatMap fieldS = (l.take k).flatMap fieldS ++ fieldS f := by
  rw [take_at h, List.flatMap_append]; simp
theorem flatMap_le {l : List Fld} (h : ∀ f ∈ l, f.name.size ≤ 10) : (l.flatMap fieldS).length ≤ 16 * l.length := by
  induction l with
  | nil => simp
  | cons f l ih =>
    rw [List.flatMap_cons, List.length_append, fieldS_len (h f (by simp)), List.length_cons]
    have := ih fun g hg => h g (by simp [hg])
    omega
theorem byteCells_u8V (l : List UInt8) : Lib.byteCells l = l.map u8V := rfl
theorem s123 : sizeB Tryz.prog 123 = 16 := by kernel_rfl
def zeros (n : Nat) : List Value := List.replicate n (.int .u8 0)
/-- The cells of a field's entry, filled. -/
def entryC (s : ByteArray) (a b c : Value) : Array Value := (s.data.toList.map u8V ++ (List.replicate (10 - s.size) 0).map u8V ++ [a, b, c, .int .u8 0, .int .u8 0, .int .u8 0]).toArray
theorem entryC_size {s : ByteArray} (h : s.size ≤ 10) (a b c : Value) : (entryC s a b c).size = 16 := by
  unfold entryC; simp only [List.size_toArray, List.length_append, List.length_map, size_list, List.length_replicate, List.length_cons, List.length_nil]; omega
theorem entryC_set10 {s : ByteArray} (h : s.size ≤ 10) (a b c v : Value) : (entryC s a b c).setIfInBounds 10 v = entryC s v b c := by
  unfold entryC
  apply Array.toList_inj.1
  rw [Array.toList_setIfInBounds]
  simp only
  rw [List.set_append_right _ _ (by simp only [List.length_append, List.length_map, size_list, List.length_replicate]; omega)]
  simp only [List.length_append, List.length_map, size_list, List.length_replicate]
  rw [show 10 - (s.size + (10 - s.size)) = 0 by omega]; rfl
theorem entryC_set11 {s : ByteArray} (h : s.size ≤ 10) (a b c v : Value) : (entryC s a b c).setIfInBounds 11 v = entryC s a v c := by
  unfold entryC
  apply Array.toList_inj.1
  rw [Array.toList_setIfInBounds]
  simp only
  rw [List.set_append_right _ _ (by simp only [List.length_append, List.length_map, size_list, List.length_replicate]; omega)]
  simp only [List.length_append, List.length_map, size_list, List.length_replicate]
  rw [show 11 - (s.size + (10 - s.size)) = 1 by omega]; rfl
theorem entryC_set12 {s : ByteArray} (h : s.size ≤ 10) (a b c v : Value) : (entryC s a b c).setIfInBounds 12 v = entryC s a b v := by
  unfold entryC
  apply Array.toList_inj.1
  rw [Array.toList_setIfInBounds]
  simp only
  rw [List.set_append_right _ _ (by simp only [List.length_append, List.length_map, size_list, List.length_replicate]; omega)]
  simp only [List.length_append, List.length_map, size_list, List.length_replicate]
  rw [show 12 - (s.size + (10 - s.size)) = 2 by omega]; rfl
theorem entry_fieldS (f : Fld) : entryC f.name (u8V (letterB f.kind)) (u8V (byteI f.width)) (u8V (nullB f.null)) = ((fieldS f).map u8V).toArray := by
  unfold entryC fieldS
  simp only [List.map_append, List.map_cons, List.map_nil]; rfl
theorem copy_name {w : World} {r : Nat} {s : ByteArray} (hb : w.heap[r]? = some (.cells (zeros 16).toArray 123)) (hs : s.size ≤ 10) :
    ∃ (n : Int) (w' : World), (Builtin.copy_ #[37, 9] 3 #[.slice (some ⟨r, 0, none⟩) 10 10, .string s]).run Tryz.prog w = .ok (.int .i64 n) w' ∧ w'.heap[r]? = some (.cells (entryC s (.int .u8 0) (.int .u8 0) (.int .u8 0)) 123) ∧ Fr (· = r) w w' := by
  have h := Lib.run_copy_row_string (P := Tryz.prog) w 37 9 3 5 r 0 10 10 s (zeros 16).toArray 123 u37 (by have := info5; simp only [Option.map_eq_some_iff] at *; obtain ⟨i, h1, h2⟩ := this; exact ⟨i, h1, by simp at h2; exact h2.2.1⟩) hb (by omega) (by simp [zeros]; omega)
  refine ⟨_, _, h, ?_, ?_⟩
  · rw [setRow_heap w r _ _ 123 (0, 0) hb]
    congr 2
    unfold entryC
    rw [byteCells_u8V]
    simp only [List.take_zero, List.nil_append, Nat.zero_add, zeros]
    rw [List.drop_replicate]
    apply Array.toList_inj.1
    simp only [List.append_assoc]
    congr 1
    have e : (List.replicate (10 - s.size) (0 : UInt8)).map u8V = List.replicate (10 - s.size) (.int .u8 0) := by rw [List.map_replicate]; rfl
    rw [e, show 16 - s.size = (10 - s.size) + 6 by omega, ← List.replicate_append_replicate]; rfl
  · exact ⟨rfl, rfl, rfl, by simp, fun k _ hk => setRow_other w r k _ hk⟩
/-- The rows of the fields. -/
theorem headLoop_c {ww w0 w : World} (hww : Pu ww w0) {s l : SV} {fs : List Fld} {acc : List UInt8} (hz : w0.heap.size ≤ w.heap.size) (hp0 : Pu w0 w) (h : RdSl w0 s fs) (hr : NewRow w0 w l acc) (hall : fs.all fieldB = true) (hn : fs.length ≤ 16) (ha : acc.length ≤ 100) :
    F62_4 (fun e w' => ∃ q : SV, e = .returned (.slice q.a q.len q.cap) ∧ NewRow ww w' q (acc ++ fs.flatMap fieldS ++ [13]) ∧ Pu ww w') l s ((s.len : Nat) : Int) 0 [] w := by
  have hlen := h.len
  have n10 : ∀ f ∈ fs, f.name.size ≤ 10 := fun f hf => (field_parts (List.all_eq_true.1 hall f hf)).2.1
  refine loopUp fs.length (fun k t w' => t.2 = (k : Int) ∧ NewRow w0 w' t.1 (acc ++ (fs.take k).flatMap fieldS) ∧ Pu w0 w') ⟨rfl, by simpa using hr, hp0⟩ ?_
  rintro k J ⟨t1, t2⟩ w2 hk ⟨h2, hr2, hp2⟩ hJ
  obtain rfl : t2 = (k : Int) := h2
  have hr2 : NewRow w0 w2 t1 (acc ++ (fs.take k).flatMap fieldS) := hr2
  have hfl := flatMap_le (l := fs.take k) fun f hf => n10 f (List.mem_of_mem_take hf)
  have htl := List.length_take_le k fs
  dsimp only
  refine Br.of (fun d => ?_) (fun d => ?_)
  · have hk2 : k < fs.length := by have := dtrue d; omega
    obtain ⟨f, hf⟩ := at_k hk2
    have hfB := List.all_eq_true.1 hall f (List.mem_of_getElem? hf)
    obtain ⟨f1, f10, K, hK, hKl⟩ := field_parts hfB
    obtain ⟨a, ha', hi, _, _, _, c0, c1, c2, c3⟩ := fldAt (h.pu hp2) hf
    refine ⟨a, ha', by omega, by omega, _, c0, _, c1, _, c2, _, c3, boxA rfl s23.symm rfl fun w3 hp3 hs3 hb3 => alB fun w4 hp4 hb4 => dwE_intro fun w5 hp5 hh5 => ?_⟩
    have hb35 := (hp4.trans hp5).blk hb3
    have hb45 : w5.heap[w3.heap.size]? = some (.cells (zeros 16).toArray 123) := hp5.blk hb4
    have hlt : w2.heap.size < w3.heap.size := blk_lt hb3
    have hp05 : Pu w0 w5 := ((hp2.trans hp3).trans hp4).trans hp5
    refine ⟨fun u => u = w5, rfl, f.name, fun u hu => by subst hu; exact cl0 hb35, ⟨some ⟨w3.heap.size, 0, none⟩, 10, 10⟩, w5, slice123 _ w5, rfl, ?_⟩
    obtain ⟨n, w6, e6, hb6, hf6⟩ := copy_name hb45 f10
    refine ⟨n, w6, e6, dwE_intro fun w7 hp7 hh7 => ?_⟩
    have hb37 := hp7.blk (hf6.blk hb35 (show ¬ w2.heap.size = w3.heap.size by omega))
    have hb47 := hp7.blk hb6
    have hr7 : NewRow w0 w7 t1 (acc ++ (fs.take k).flatMap fieldS) := ((((hr2.pu hp3).pu hp4).pu hp5).fr hf6 fun b hb e => by
      have hb2 := hr2.1.lt b hb
      have e : b = w3.heap.size := e
      omega).pu hp7
    have hp07 : Pu w0 w7 := (hp05.andNew hf6 fun i hi => by have hi : i = w3.heap.size := hi; have := hp2.size; omega).trans hp7
    refine ⟨fun u => u.heap[w2.heap.size]? = some (.cells #[.string f.name, .int .i64 f.kind, .int .i64 f.width, .bool f.null] 23), hb37, f.kind, fun u hu => cl hu 1, f.width, fun u hu => cl hu 2, (kinds_c w7).mono ?_⟩
    rintro e w8 ⟨m, rfl, hm, hm2, hp8⟩
    have hb48 := hp8.blk hb47
    have hb38 := hp8.blk hb37
    have hsz : ∀ a b c, (entryC f.name a b c).size = 16 := entryC_size f10
    have z3 : w3.heap.size < w7.heap.size := blk_lt hb47
    refine ⟨some m, rfl, fun u => u.heap[w2.heap.size]? = some (.cells #[.string f.name, .int .i64 f.kind, .int .i64 f.width, .bool f.null] 23) ∧ MapAt u intV kindV m kindsL, ⟨hb38, hm⟩, fun u hu => hu.1, K.letter, K.least, K.most, .func (.func K.wr) #[] #[], .func (.func K.rd) #[] #[], fun u hu => ?_, by omega, by omega, ?_⟩
    · have := kind_look hu.2 f.kind false
      rw [hK] at this; exact this
    · show st1 ((⟨w3.heap.size, 0, none⟩ : Addr).add 10) _ w8 _
      rw [add_def, Nat.zero_add]
      refine st1_intro hb48 (by rw [hsz]; omega) fun w9 hw9 hb9 => ?_
      have hf9 : Fr (· = w3.heap.size) w8 w9 := by rw [hw9]; exact Fr.cell w8 _ 10 _
      rw [entryC_set10 f10, hKl] at hb9
      have hb39 := hf9.blk hb38 (show ¬ w2.heap.size = w3.heap.size by omega)
      refine ⟨fun u => u.heap[w2.heap.size]? = some (.cells #[.string f.name, .int .i64 f.kind, .int .i64 f.width, .bool f.null] 23) ∧ MapAt u intV kindV m kindsL, ⟨hb39, hm.fr hf9 (by omega)⟩, fun u hu => hu, by omega, by omega, ?_⟩
      show st1 ((⟨w3.heap.size, 0, none⟩ : Addr).add 11) _ w9 _
      rw [add_def, Nat.zero_add]
      refine st1_intro hb9 (by rw [hsz]; omega) fun w10 hw10 hb10 => ?_
      have hf10 : Fr (· = w3.heap.size) w9 w10 := by rw [hw10]; exact Fr.cell w9 _ 11 _
      rw [entryC_set11 f10, wrap_byte] at hb10
      have hb310 := hf10.blk hb39 (show ¬ w2.heap.size = w3.heap.size by omega)
      -- behind the last store
      have fin : ∀ {w11 : World}, Fr (· = w3.heap.size) w10 w11 → w11.heap[w3.heap.size]? = some (.cells ((fieldS f).map u8V).toArray 123) →
          ∃ l62 : SV, ∃ w12 : World, (Builtin.append_ #[37, 37] 37 #[.slice t1.a t1.len t1.cap, .slice (some (if 16 = 0 then (⟨w3.heap.size, 0, none⟩ : Addr) else (⟨w3.heap.size, 0, none⟩ : Addr).add (0 * 1))) (16 - 0) (16 - 0)]).run Tryz.prog w11 = .ok (.slice l62.a l62.len l62.cap) w12 ∧ J (l62, (IntKind.i64.wrap ((k : Int) + 1))) w12 := fun {w11} hf11 hb11 => by
        have hfa : Fr (· = w3.heap.size) w8 w11 := (hf9.trans hf10 fun _ h _ => h).trans hf11 fun _ h _ => h
        have hr11 : NewRow w0 w11 t1 (acc ++ (fs.take k).flatMap fieldS) := (hr7.pu hp8).fr hfa fun b hb e => by
          have hb2 := hr2.1.lt b hb
          have e : b = w3.heap.size := e
          omega
        have hp011 : Pu w0 w11 := (hp07.trans hp8).andNew hfa fun i hi => by have hi : i = w3.heap.size := hi; have := hp2.size; omega
        obtain ⟨s', w12, e12, hr12, hf12⟩ := hr11.app hp011.size (m := ⟨some ⟨w3.heap.size, 0, none⟩, 16, 16⟩) (news := fieldS f) (fieldS_len f10).symm (fun j b hj => ⟨_, rfl, by rw [add_def, cell_blk hb11, Nat.zero_add]; simp [hj]⟩) (by rw [fieldS_len f10]; simp only [List.length_append]; omega)
        refine ⟨s', w12, e12, ?_⟩
        rw [wrap_in (by omega) (by omega)]
        refine hJ _ _ hk2 ⟨by dsimp only; omega, ?_, hp011.andNew hf12 fun i hi => hr11.2 i hi⟩
        rw [flatMap_take hf, ← List.append_assoc]; exact hr12
      refine ⟨_, cl hb310 3, Br.of (fun d1 => ⟨by omega, by omega, ?_⟩) (fun d1 => ⟨by omega, by omega, fin (Fr.refl _ _) ?_⟩)⟩
      · show st1 ((⟨w3.heap.size, 0, none⟩ : Addr).add 12) _ w10 _
        rw [add_def, Nat.zero_add]
        refine st1_intro hb10 (by rw [hsz]; omega) fun w11 hw11 hb11 => ⟨by omega, by omega, fin (by rw [hw11]; exact Fr.cell w10 _ 12 _) ?_⟩
        rw [entryC_set12 f10] at hb11
        rw [← entry_fieldS, d1]; exact hb11
      · rw [← entry_fieldS, d1]; exact hb10
  · have hk2 : k = fs.length := by have := dfalse d; omega
    subst hk2
    rw [List.take_length] at hr2 hfl
    refine alB fun w3 hp3 hb3 => ?_
    obtain ⟨s', w4, e4, hr4, hf4⟩ := (hr2.pu hp3).one (hp2.trans hp3).size (b := 13) hb3 rfl (by simp only [List.length_append]; omega)
    exact ⟨s', w4, e4, s', rfl, hr4.low hww.size, hww.trans ((hp2.trans hp3).andNew hf4 fun i hi => hr2.2 i hi)⟩

theorem hdRest_c {ww w0 w21 : World} (hww : Pu ww w0) {t : Tbl} {f r l14 : SV} {r1 r10 : Nat} (h : RdTbl w0 t f r) (hvf : validF t.fields = 0) (hrl : t.recs.length ≤ 1000000) (hp : Pu w0 w21) (hb1 : w0.heap[r1]? = some (.cells #[.int .i64 t.page, .slice f.a f.len f.cap, .slice r.a r.len r.cap] 35)) (h10 : w0.heap.size ≤ r10)
    (hb10 : w21.heap[r10]? = some (.cells #[.int .u8 67, .int .u8 (IntKind.u8.wrap t.page)] 5)) (hl : NewRow w0 w21 l14 (lowN t.recs.length 4)) :
    hdRest (fun e w' => ∃ q : SV, e = .returned (.slice q.a q.len q.cap) ∧ NewRow ww w' q (headS t) ∧ Pu ww w') r1 r10 l14 [] w21 := by
  obtain ⟨hne0, hall, hnd, hn16, hw⟩ := validF_ok hvf
  have hfl := h.fields.len
  rw [wrap_byte] at hb10
  have box : NewRow w0 w21 ⟨some ⟨r10, 0, none⟩, 2, 2⟩ [67, byteI t.page] := NewRow.box (l := [67, byteI t.page]) hb10 h10 (by simp)
  obtain ⟨l15, w22, e22, r15, f22⟩ := box.app hp.size (m := l14) (news := lowN t.recs.length 4) hl.len (fun j b hj => hl.cell hj) (by rw [lowN_len]; simp)
  have hp22 : Pu w0 w22 := hp.andNew f22 fun i hi => box.2 i hi
  refine ⟨l15, w22, e22, f, cl (hp22.blk hb1) 1, ?_⟩
  rw [hfl]
  refine (headLen_c t.fields.length (by omega) w22).mono ?_
  rintro e w23 ⟨rfl, hp23⟩
  refine ⟨_, rfl, (low_c (13 + 16 * t.fields.length) 2 (by omega) w23).mono ?_⟩
  rintro e w24 ⟨l21, rfl, r21, hp24⟩
  have hp24' := hp22.trans (hp23.trans hp24)
  have r15' := r15.pu (hp23.trans hp24)
  obtain ⟨l22, w25, e25, r22, f25⟩ := r15'.app hp24'.size (m := l21) (news := lowN (13 + 16 * t.fields.length) 2) r21.len (fun j b hj => r21.cell hj) (by simp only [List.length_append, lowN_len]; simp)
  have hp25 : Pu w0 w25 := hp24'.andNew f25 fun i hi => r15'.2 i hi
  refine ⟨l21, rfl, l22, w25, e25, f, cl (hp25.blk hb1) 1, (length_c (h.fields.pu hp25) (WOk.of hall)).mono ?_⟩
  rintro e w26 ⟨rfl, hp26⟩
  have hs := sum_le (WOk.of hall)
  have hw0 : wide t.fields = ((wide t.fields).toNat : Int) := by unfold wide at *; omega
  refine ⟨_, rfl, ?_⟩
  rw [show (Value.int .i64 (wide t.fields)) = .int .i64 (((wide t.fields).toNat : Nat) : Int) by rw [← hw0]]
  refine (low_c (wide t.fields).toNat 2 (by omega) w26).mono ?_
  rintro e w27 ⟨l27, rfl, r27, hp27⟩
  have hp27' := hp25.trans (hp26.trans hp27)
  have r22' := r22.pu (hp26.trans hp27)
  obtain ⟨l28, w28, e28, r28, f28⟩ := r22'.app hp27'.size (m := l27) (news := lowN (wide t.fields).toNat 2) r27.len (fun j b hj => r27.cell hj) (by simp only [List.length_append, lowN_len]; simp)
  have hp28 : Pu w0 w28 := hp27'.andNew f28 fun i hi => r22'.2 i hi
  refine ⟨l27, rfl, l28, w28, e28, f, cl (hp28.blk hb1) 1, alB fun w29 hp29 hb29 => ?_⟩
  rw [wrap_byte, hfl] at hb29
  have hp29' := hp28.trans hp29
  have box2 : NewRow w0 w29 ⟨some ⟨w28.heap.size, 0, none⟩, 2, 2⟩ [byteI (t.fields.length : Int), 0] := NewRow.box (l := [byteI (t.fields.length : Int), 0]) hb29 hp28.size (by simp)
  have r28' := r28.pu hp29
  obtain ⟨l35, w30, e30, r35, f30⟩ := r28'.app hp29'.size (m := ⟨some ⟨w28.heap.size, 0, none⟩, 2, 2⟩) (news := [byteI (t.fields.length : Int), 0]) rfl (fun j b hj => box2.cell hj) (by simp only [List.length_append, lowN_len]; simp)
  have hp30 : Pu w0 w30 := hp29'.andNew f30 fun i hi => r28'.2 i hi
  refine ⟨l35, w30, e30, f, cl (hp30.blk hb1) 1, ?_⟩
  exact headLoop_c hww hp30.size hp30 h.fields r35 hall hn16 (by simp only [List.length_append, lowN_len, List.length_cons, List.length_nil]; omega)
theorem header_c {w : World} {t : Tbl} {f r : SV} (h : RdTbl w t f r) (hvf : validF t.fields = 0) (hrl : t.recs.length ≤ 1000000) : Calls Tryz.prog 62 #[tblA t f r] w fun e w' => ∃ q : SV, e = .returned (.slice q.a q.len q.cap) ∧ NewRow w w' q (headS t) ∧ Pu w w' := by
  refine F62_calls _ _ _ w _ ?_
  refine alB fun w1 hp1 hb1 => dwE_intro fun w2 hp2 hh2 => ?_
  have hp12 := hp1.trans hp2
  have hb2 := hp2.blk hb1
  have hrlen := h.recs.len
  have z1 := hp12.size
  have up : ∀ {w21 r10 l14}, Pu w2 w21 → w2.heap.size ≤ r10 → w21.heap[r10]? = some (.cells #[.int .u8 67, .int .u8 (IntKind.u8.wrap t.page)] 5) → NewRow w2 w21 l14 (lowN t.recs.length 4) →
      hdRest (fun e w' => ∃ q : SV, e = .returned (.slice q.a q.len q.cap) ∧ NewRow w w' q (headS t) ∧ Pu w w') w.heap.size r10 l14 [] w21 := fun {w21 r10 l14} q1 q2 q3 q4 => by
    exact hdRest_c hp12 (h.pu hp12) hvf hrl q1 hb2 q2 q3 q4
  refine ⟨fun u => Pu w2 u, Pu.refl _, t.page, fun u hu => cl0 (hu.blk hb2), r, fun u hu => cl (hu.blk hb2) 2, ?_⟩
  rw [hrlen]
  constructor
  · refine alB fun w20 hp20 hb20 => ⟨hp20, (low_c t.recs.length 4 (by omega) w20).mono ?_⟩
    rintro e w21 ⟨l14, rfl, r14, hp21⟩
    exact ⟨l14, rfl, hp20.trans hp21, up (hp20.trans hp21) (Nat.le_refl _) (hp21.blk hb20) (r14.low hp20.size)⟩
  · refine (low_c t.recs.length 4 (by omega) w2).mono ?_
    rintro e w31 ⟨l14, rfl, r14, hp31⟩
    refine ⟨l14, rfl, hp31, alB fun w32 hp32 hb32 => ⟨hp31.trans hp32, up (hp31.trans hp32) hp31.size hb32 (r14.pu hp32)⟩⟩

theorem validT_fields0 {t : Tbl} (h : validT t = 0) : pageB t.page = true ∧ validF t.fields = 0 ∧ t.recs.length ≤ 300 ∧ firstBad t.fields t.page t.recs = 0 := by
  unfold validT at h
  split at h
  · rename_i hp
    split at h
    · omega
    · rename_i hf
      split at h
      · omega
      · rename_i hr
        exact ⟨hp, by omega, by omega, h⟩
  · omega
/-- P3.2: the header, or what is wrong. -/
theorem headerE_c {w : World} {t : Tbl} {f r : SV} (h : RdTbl w t f r) (hl : Lim.ok t.fields) : Calls Tryz.prog 19 #[tblA t f r] w fun e w' => ∃ q : SV, e = .returned (.tuple #[.slice q.a q.len q.cap, .int .i64 (validT t)]) ∧ NewRow w w' q (if validT t = 0 then headS t else []) ∧ Pu w w' := by
  refine F19_calls _ _ _ w _ ?_
  refine alB fun w1 hp1 hb1 => ⟨_, cl hb1 0, _, cl hb1 1, _, cl hb1 2, (validTbl_c (h.pu hp1) hl).mono ?_⟩
  rintro e w2 ⟨rfl, hp2⟩
  have hp12 := hp1.trans hp2
  refine ⟨_, rfl, Br.of (fun d => ⟨⟨none, 0, 0⟩, rfl, by rw [if_neg (bntrue d)]; exact NewRow.nil w w2, hp12⟩) (fun d => ⟨_, cl (hp2.blk hb1) 0, _, cl (hp2.blk hb1) 1, _, cl (hp2.blk hb1) 2, ?_⟩)⟩
  have d := bnfalse d
  obtain ⟨h1, h2, h3, _⟩ := validT_fields0 d
  refine (header_c (h.pu hp12) h2 (by omega)).mono ?_
  rintro e w3 ⟨q, rfl, hq, hp3⟩
  exact ⟨q, rfl, q, by rw [d], by rw [if_pos d]; exact hq.low hp12.size, hp12.trans hp3⟩
end Go.Proofs.YtecmfdfhpldmmaaGreatDoor
