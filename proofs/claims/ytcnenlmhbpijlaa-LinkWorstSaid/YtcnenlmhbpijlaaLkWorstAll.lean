import Derived.Test.YtcnenlmhbpijlaaLkWide
import Derived.Test.YtcnenlmhbpijlaaShTwelve
import Derived.Test.YtcnenlmhbpijlaaLkI
import Derived.Test.YtcnenlmhbpijlaaSkLast
import Derived.Test.YtcnenlmhbpijlaaLkT
import Derived.Test.YtcnenlmhbpijlaaShThirteen
/- Link: the keys of Worst's memo. No condition. -/
set_option maxRecDepth 100000
set_option linter.unusedVariables false
set_option linter.unusedSimpArgs false
namespace Go.Proofs.Ytcnenlmhbpijlaa
open Go.Sh Go.RowKit

/-- A state of Worst: the names below, joined; the top; the room; the steps left. -/
structure WK where
  stk : ByteArray
  top : ByteArray
  room : Int
  left : Int
deriving DecidableEq
def WK.row (k : WK) : List Value := [.string k.stk, .string k.top, .int .i64 k.room, .int .i64 k.left]
abbrev ekW : WK → Value := fun k => .agg k.row.toArray
theorem KW : Keys Try.prog 106 ekW := keys_struct (ks := [none, none, some .i64, some .i64]) (row := WK.row) (by kernel_rfl) (fun _ => rfl) (fun _ => rfl) fun x y h => by
  cases x; cases y
  simp [WK.row] at h
  simp_all
theorem u103 : Try.prog.underlying 103 = some (.map 106 3) := by kernel_rfl
abbrev evI : Int → Value := fun n => .int .i64 n
theorem look103 {w : World} {b : Nat} {M : List (WK × Int)} (h : MapAt w ekW evI b M) (k : WK) : (Instr.lookup 103 (.map (some b)) (ekW k) true).run Try.prog w = .ok (.tuple #[.int .i64 ((AL.get M k).getD 0), .bool (AL.get M k).isSome]) w := by
  have h1 := MapAt.look h KW u103 (Try.zeroValue3 w) k true
  simp only [if_true] at h1
  rw [h1]
  cases AL.get M k <;> rfl
theorem put103 {w : World} {b : Nat} {M : List (WK × Int)} (h : MapAt w ekW evI b M) (k : WK) (n : Int) : ∃ w', (Instr.mapUpdate 103 (.map (some b)) (ekW k) (.int .i64 n)).run Try.prog w = .ok () w' ∧ MapAt w' ekW evI b (AL.put M k n) ∧ Fr (· = b) w w' ∧ w'.heap.size = w.heap.size := MapAt.upd h KW u103 k n
end Go.Proofs.Ytcnenlmhbpijlaa

/- Link: the most loads that so many steps can add: the plain law of LinkBound. No condition. -/
set_option maxRecDepth 100000
set_option linter.unusedVariables false
set_option linter.unusedSimpArgs false
namespace Go.Proofs.Ytcnenlmhbpijlaa
open Go.Sh Go.RowKit

/-- What n steps can add at most, with these names below the top, from this room. -/
def WS (D : List PDat) : Nat → List ByteArray → ByteArray → Int → Int
  | 0, _, _, _ => 0
  | n + 1, rest, top, room =>
    let f := fun (rest' : List ByteArray) (y : ByteArray) => (enterR (getD D y).1 (room, 0)).2 + WS D n rest' y (enterR (getD D y).1 (room, 0)).1
    let a := ((setS (getD D top).2).map (f (top :: rest))).foldl max 0
    match rest with
    | [] => a
    | t :: r => max a (f r t)
theorem enter_shift (ov room c : Int) : enterR ov (room, c) = ((enterR ov (room, 0)).1, c + (enterR ov (room, 0)).2) := by
  unfold enterR
  split
  · simp
  · split
    · simp
    · simp
theorem enter_one (ov room : Int) : 0 ≤ (enterR ov (room, 0)).2 ∧ (enterR ov (room, 0)).2 ≤ 1 := by
  unfold enterR
  split
  · simp
  · split <;> simp
theorem foldl_max_ge : ∀ (l : List Int) (a : Int), a ≤ l.foldl max a ∧ ∀ x ∈ l, x ≤ l.foldl max a
  | [], a => by simp
  | y :: l, a => by
    obtain ⟨h1, h2⟩ := foldl_max_ge l (max a y)
    simp only [List.foldl_cons, List.mem_cons]
    refine ⟨by omega, ?_⟩
    rintro x (rfl | hx)
    · omega
    · exact h2 x hx
theorem foldl_max_le {b : Int} : ∀ (l : List Int) (a : Int), a ≤ b → (∀ x ∈ l, x ≤ b) → l.foldl max a ≤ b
  | [], a, h, _ => h
  | y :: l, a, h, hl => foldl_max_le l (max a y) (by have := hl y List.mem_cons_self; omega) fun x hx => hl x (List.mem_cons_of_mem _ hx)
theorem WS_bounds (D : List PDat) : ∀ (n : Nat) (rest : List ByteArray) (top : ByteArray) (room : Int), 0 ≤ WS D n rest top room ∧ WS D n rest top room ≤ n
  | 0, _, _, _ => by simp [WS]
  | n + 1, rest, top, room => by
    have hf : ∀ (rest' : List ByteArray) (y : ByteArray), (enterR (getD D y).1 (room, 0)).2 + WS D n rest' y (enterR (getD D y).1 (room, 0)).1 ≤ ((n + 1 : Nat) : Int) := fun rest' y => by
      have h1 := enter_one (getD D y).1 room
      have h2 := WS_bounds D n rest' y (enterR (getD D y).1 (room, 0)).1
      omega
    have ha := foldl_max_ge ((setS (getD D top).2).map fun y => (enterR (getD D y).1 (room, 0)).2 + WS D n (top :: rest) y (enterR (getD D y).1 (room, 0)).1) 0
    have hb := foldl_max_le (b := ((n + 1 : Nat) : Int)) ((setS (getD D top).2).map fun y => (enterR (getD D y).1 (room, 0)).2 + WS D n (top :: rest) y (enterR (getD D y).1 (room, 0)).1) 0 (by omega) fun x hx => by
      obtain ⟨y, _, rfl⟩ := List.mem_map.1 hx
      exact hf _ y
    cases rest with
    | nil => exact ⟨ha.1, hb⟩
    | cons t r =>
      have := hf r t
      simp only [WS]
      have h1 := ha.1
      omega
/-- No walk adds more. -/
theorem walk_WS (D : List PDat) : ∀ (n : Nat) (walk : List ByteArray) (rest : List ByteArray) (top : ByteArray) (r r' : Int × Int), walk.length ≤ n → walkS D (top :: rest) r walk = some r' → r'.2 ≤ r.2 + WS D n rest top r.1
  | n, [], rest, top, r, r', _, h => by
    have h : some r = some r' := h
    cases h
    have := (WS_bounds D n rest top r.1).1
    omega
  | 0, s :: ws, rest, top, r, r', hn, h => by simp at hn
  | n + 1, s :: ws, rest, top, r, r', hn, h => by
    have hn : ws.length ≤ n := by simpa using hn
    rw [walkS_cons] at h
    have ha := foldl_max_ge ((setS (getD D top).2).map fun y => (enterR (getD D y).1 (r.1, 0)).2 + WS D n (top :: rest) y (enterR (getD D y).1 (r.1, 0)).1) 0
    split at h
    · cases rest with
      | nil => cases h
      | cons t r2 =>
        simp only at h
        have h1 := walk_WS D n ws r2 t _ r' hn h
        rw [show r = (r.1, r.2) from rfl, enter_shift] at h1
        simp only [WS]
        simp only at h1
        omega
    · split at h
      · rename_i hc
        have h1 := walk_WS D n ws (top :: rest) s _ r' hn h
        rw [show r = (r.1, r.2) from rfl, enter_shift] at h1
        simp only at h1
        have h2 := ha.2 _ (List.mem_map.2 ⟨s, mem_setS.2 (has_iff.1 hc), rfl⟩)
        have h3 : ((setS (getD D top).2).map fun y => (enterR (getD D y).1 (r.1, 0)).2 + WS D n (top :: rest) y (enterR (getD D y).1 (r.1, 0)).1).foldl max 0 ≤ WS D (n + 1) rest top r.1 := by
          cases rest with
          | nil => exact Int.le_refl _
          | cons t r2 => simp only [WS]; omega
        omega
      · cases h
end Go.Proofs.Ytcnenlmhbpijlaa

/- Link: the names below, as one text. No condition. -/
set_option maxRecDepth 100000
set_option linter.unusedVariables false
set_option linter.unusedSimpArgs false
namespace Go.Proofs.Ytcnenlmhbpijlaa
open Go.Sh Go.RowKit

def space : ByteArray := ⟨#[32]⟩
def stkS : List ByteArray → ByteArray
  | [] => ⟨#[]⟩
  | t :: r => (stkS r ++ space) ++ t
def NoSp (s : ByteArray) : Prop := (32 : UInt8) ∉ s.data.toList
theorem stkS_data (t : ByteArray) (r : List ByteArray) : (stkS (t :: r)).data.toList = (stkS r).data.toList ++ 32 :: t.data.toList := by
  simp [stkS, space, ByteArray.data_append]
theorem split_unique {a b c d : List UInt8} (hb : (32 : UInt8) ∉ b) (hd : (32 : UInt8) ∉ d) (h : a ++ 32 :: b = c ++ 32 :: d) : a = c ∧ b = d := by
  have hl : b.length = d.length := by
    rcases Nat.lt_trichotomy b.length d.length with hlt | he | hgt
    · exfalso
      rw [List.append_eq_append_iff] at h
      rcases h with ⟨q, h1, h2⟩ | ⟨q, h1, h2⟩
      · have := congrArg List.length h2; cases q with
        | nil => simp at this; omega
        | cons x q => simp at h2; apply hb; rw [h2.2]; simp
      · cases q with
        | nil => simp at h2; rw [h2] at hlt; omega
        | cons x q => simp at h2; apply hd; rw [h2.2]; simp
    · exact he
    · exfalso
      rw [List.append_eq_append_iff] at h
      rcases h with ⟨q, h1, h2⟩ | ⟨q, h1, h2⟩
      · cases q with
        | nil => simp at h2; rw [h2] at hgt; omega
        | cons x q => simp at h2; apply hb; rw [h2.2]; simp
      · have := congrArg List.length h2; cases q with
        | nil => simp at this; omega
        | cons x q => simp at h2; apply hd; rw [h2.2]; simp
  have hlen := congrArg List.length h
  simp at hlen
  have := List.append_inj h (by omega)
  exact ⟨this.1, by simpa using this.2⟩
theorem stkS_inj : ∀ {r r' : List ByteArray}, (∀ x ∈ r, NoSp x) → (∀ x ∈ r', NoSp x) → stkS r = stkS r' → r = r'
  | [], [], _, _, _ => rfl
  | [], t :: r, _, _, h => by
    have := congrArg (fun s : ByteArray => s.data.toList) h
    simp only [stkS_data] at this
    simp [stkS] at this
  | t :: r, [], _, _, h => by
    have := congrArg (fun s : ByteArray => s.data.toList) h
    simp only [stkS_data] at this
    simp [stkS] at this
  | t :: r, t' :: r', h1, h2, h => by
    have := congrArg (fun s : ByteArray => s.data.toList) h
    simp only [stkS_data] at this
    obtain ⟨e1, e2⟩ := split_unique (h1 t List.mem_cons_self) (h2 t' List.mem_cons_self) this
    have e1 : stkS r = stkS r' := bytes_ext e1
    have e2 : t = t' := bytes_ext e2
    rw [e2, stkS_inj (fun x hx => h1 x (List.mem_cons_of_mem _ hx)) (fun x hx => h2 x (List.mem_cons_of_mem _ hx)) e1]
end Go.Proofs.Ytcnenlmhbpijlaa

/- Link: the names below, taken apart. No condition. -/
set_option maxRecDepth 100000
set_option linter.unusedVariables false
set_option linter.unusedSimpArgs false
namespace Go.Proofs.Ytcnenlmhbpijlaa
open Go.Sh Go.RowKit

theorem szL (s : ByteArray) : s.data.toList.length = s.size := by rw [Array.length_toList]; rfl
theorem push_data (a t : ByteArray) : ((a ++ space) ++ t).data.toList = a.data.toList ++ 32 :: t.data.toList := by simp [space, ByteArray.data_append]
theorem byte_at {s : ByteArray} {L : List UInt8} (h : s.data.toList = L) {j : Nat} {b : UInt8} (hb : L[j]? = some b) : s.data[j]! = b := by
  subst h
  have hj : j < s.data.size := by
    have := (List.getElem?_eq_some_iff.1 hb).1
    simpa using this
  rw [getElem!_pos s.data j hj]
  have := (List.getElem?_eq_some_iff.1 hb).2
  simpa using this
theorem last_push (a t : ByteArray) (h : NoSp t) : Lib.lastIndexByte ((a ++ space) ++ t) 32 = (a.size : Int) := by
  have hd : ((a ++ space) ++ t).data.toList = a.data.toList ++ 32 :: t.data.toList := by simp [space, ByteArray.data_append]
  generalize (a ++ space) ++ t = s at hd
  have hz : s.size = a.size + 1 + t.size := by
    have := congrArg List.length hd
    rw [szL, List.length_append, List.length_cons, szL, szL] at this
    omega
  have hal := szL a
  have htl := szL t
  have hmid : s.data[a.size]! = 32 := byte_at hd (by rw [List.getElem?_append_right (by omega), hal, Nat.sub_self]; rfl)
  rcases Lib.lastIndexByte_spec s 32 with ⟨_, hn⟩ | ⟨i, hi, he, hc, hn⟩
  · exact absurd (by rw [hmid]; rfl) (hn a.size (by omega))
  · rw [he]
    rcases Nat.lt_trichotomy i a.size with hlt | heq | hgt
    · exact absurd (by rw [hmid]; rfl) (hn a.size hlt (by omega))
    · rw [heq]
    · exfalso
      obtain ⟨k, hk⟩ : ∃ k, i = a.size + 1 + k := ⟨i - a.size - 1, by omega⟩
      obtain ⟨b, hb⟩ := at_k (l := t.data.toList) (k := k) (by omega)
      have := byte_at hd (j := i) (b := b) (by rw [List.getElem?_append_right (by omega), hal, show i - a.size = k + 1 by omega, List.getElem?_cons_succ]; exact hb)
      rw [this] at hc
      have hb32 : b = 32 := by
        apply UInt8.toNat_inj.1
        have : (b.toNat : Int) = 32 := hc
        show b.toNat = 32
        omega
      exact h (hb32 ▸ List.mem_of_getElem? hb)
theorem last_none : Lib.lastIndexByte ⟨#[]⟩ 32 = -1 := rfl
theorem pop_below (a t : ByteArray) : ((a ++ space) ++ t).extract 0 a.size = a := by
  apply bytes_ext
  have hal := szL a
  rw [ByteArray.data_extract, Array.toList_extract, List.extract_eq_take_drop, push_data, List.drop_zero, Nat.sub_zero, ← hal, List.take_left]
theorem pop_top (a t : ByteArray) : ((a ++ space) ++ t).extract (a.size + 1) ((a ++ space) ++ t).size = t := by
  apply bytes_ext
  have hal := szL a
  have hs := szL ((a ++ space) ++ t)
  have hl := congrArg List.length (push_data a t)
  rw [List.length_append, List.length_cons] at hl
  rw [ByteArray.data_extract, Array.toList_extract, List.extract_eq_take_drop, push_data]
  rw [show a.data.toList ++ 32 :: t.data.toList = (a.data.toList ++ [32]) ++ t.data.toList by simp, List.drop_append_of_le_length (by rw [List.length_append, hal]; exact Nat.le_refl _), List.drop_of_length_le (by rw [List.length_append, hal]; exact Nat.le_refl _), List.nil_append]
  exact List.take_of_length_le (by omega)
end Go.Proofs.Ytcnenlmhbpijlaa

/- Link: the program's search for the worst walk. No condition but the reach's. -/
set_option maxRecDepth 100000
set_option linter.unusedVariables false
set_option linter.unusedSimpArgs false
namespace Go.Proofs.Ytcnenlmhbpijlaa
open Go.Sh Go.RowKit

theorem okFrom_nosp : ∀ {i : Nat} {l : List UInt8}, okFrom i l = true → (32 : UInt8) ∉ l
  | _, [], _ => by simp
  | i, b :: r, h => by
    simp only [okFrom, Bool.and_eq_true] at h
    intro hm
    rcases List.mem_cons.1 hm with rfl | hm
    · have h1 := h.1
      simp [nameAt, letter] at h1
    · exact okFrom_nosp h.2 hm
theorem name_nosp {s : ByteArray} (h : nameB s = true) : NoSp s ∧ s.size ≤ 10 := by
  simp only [nameB, Bool.and_eq_true, decide_eq_true_eq] at h
  exact ⟨okFrom_nosp h.1.1, h.2⟩
theorem stkS_size : ∀ {r : List ByteArray}, (∀ x ∈ r, nameB x = true) → (stkS r).size ≤ 11 * r.length
  | [], _ => Nat.le_refl 0
  | t :: r, h => by
    have h1 := (name_nosp (h t List.mem_cons_self)).2
    have h2 := stkS_size fun x hx => h x (List.mem_cons_of_mem _ hx)
    have h3 := congrArg List.length (stkS_data t r)
    rw [szL, List.length_append, List.length_cons, szL, szL] at h3
    simp only [List.length_cons]
    omega

abbrev worstFn (rK rP rW : Nat) : Value := .func (.func 83) #[] #[.pointer (some (⟨rK, 0, none⟩ : Addr)), .pointer (some (⟨rP, 0, none⟩ : Addr)), .pointer (some (⟨rW, 0, none⟩ : Addr))]

/-- What the memo tells is right. -/
def MemoOK (D : List PDat) (M : List (WK × Int)) : Prop := ∀ k n, AL.get M k = some n → ∀ rest, (∀ x ∈ rest, NoSp x) → k.stk = stkS rest → 0 ≤ k.left ∧ n = WS D k.left.toNat rest k.top k.room

/-- The search's cells. -/
structure WSt (D : List PDat) (w0 : World) (b rK rP rW rM : Nat) (w : World) (M : List (WK × Int)) : Prop where
  pu : Pu w0 w
  k : w.heap[rK]? = some (.cells #[.map (some rM)] 103)
  p : w.heap[rP]? = some (.cells #[.map (some b)] 57)
  f : w.heap[rW]? = some (.cells #[worstFn rK rP rW] 104)
  m : MapAt w ekW evI rM M
  ok : MemoOK D M
theorem WSt.fr {D : List PDat} {w0 : World} {b rK rP rW rM : Nat} {w w' : World} {M : List (WK × Int)} {B : Nat → Prop} (h : WSt D w0 b rK rP rW rM w M) (hf : Fr B w w') (h0 : ∀ i, B i → w0.heap.size ≤ i) (h1 : ¬ B rK) (h2 : ¬ B rP) (h3 : ¬ B rW) (h4 : ¬ B rM) : WSt D w0 b rK rP rW rM w' M :=
  ⟨Pu.andNew h.pu hf h0, hf.blk h.k h1, hf.blk h.p h2, hf.blk h.f h3, h.m.fr hf h4, h.ok⟩
theorem WSt.pu' {D : List PDat} {w0 : World} {b rK rP rW rM : Nat} {w w' : World} {M : List (WK × Int)} (h : WSt D w0 b rK rP rW rM w M) (hp : Pu w w') : WSt D w0 b rK rP rW rM w' M :=
  ⟨h.pu.trans hp, hp.blk h.k, hp.blk h.p, hp.blk h.f, h.m.pu hp, h.ok⟩

/-- What is asked of the modules. -/
structure WCtx (w0 : World) (b : Nat) (L : List PRow) (D : List PDat) : Prop where
  m : MapAt w0 ekS evP b L
  r : RdP w0 L D
  name : ∀ x y, y ∈ (getD D x).2 → nameB y = true
  len : ∀ x, (getD D x).2.length ≤ 100

section
variable {D : List PDat} {w0 : World} {b rK rP rW rM : Nat} {L : List PRow}

/-- The contract of the search. -/
def WorstC (D : List PDat) (w0 : World) (b rK rP rW rM : Nat) (n : Nat) : Prop := ∀ (rest : List ByteArray) (top : ByteArray) (room : Int) (w : World) (M : List (WK × Int)), rest.length + n ≤ 1000 → (∀ x ∈ rest, nameB x = true) → nameB top = true → WSt D w0 b rK rP rW rM w M →
  Calls Try.prog 83 #[.agg #[.string (stkS rest), .string top, .int .i64 room, .int .i64 (n : Int)], .pointer (some (⟨rK, 0, none⟩ : Addr)), .pointer (some (⟨rP, 0, none⟩ : Addr)), .pointer (some (⟨rW, 0, none⟩ : Addr))] w fun e w' =>
    e = .returned (.int .i64 (WS D n rest top room)) ∧ ∃ M', WSt D w0 b rK rP rW rM w' M' ∧ Fr (· = rM) w w'

set_option maxHeartbeats 1000000 in
theorem try_c (hC : WCtx w0 b L D) (hK : rK ≠ rM) (hP : rP ≠ rM) (hW : rW ≠ rM) (hM0 : w0.heap.size ≤ rM) {n : Nat} (ih : WorstC D w0 b rK rP rW rM n) (rest : List ByteArray) (y : ByteArray) (hn : rest.length + n ≤ 1000) (hr : ∀ x ∈ rest, nameB x = true) (hy : nameB y = true)
    (w : World) (M : List (WK × Int)) (S : WSt D w0 b rK rP rW rM w M) (r4 r8 : Nat) (s0 t0 : ByteArray) (room best : Int) (h0 : 0 ≤ best) (h1 : best ≤ n + 1)
    (h4 : w.heap[r4]? = some (.cells #[.string s0, .string t0, .int .i64 room, .int .i64 ((n : Int) + 1)] 106)) (h8 : w.heap[r8]? = some (.cells #[.int .i64 best] 3)) (h48 : r4 ≠ r8) (d4 : r4 ≠ rM) (d8 : r8 ≠ rM) (e8 : w0.heap.size ≤ r8) (k8 : rK ≠ r8) (p8 : rP ≠ r8) (f8 : rW ≠ r8) :
    Calls Try.prog 84 #[.agg #[.string (stkS rest), .string y, .int .i64 0, .int .i64 0], .pointer (some (⟨r4, 0, none⟩ : Addr)), .pointer (some (⟨rP, 0, none⟩ : Addr)), .pointer (some (⟨r8, 0, none⟩ : Addr)), .pointer (some (⟨rW, 0, none⟩ : Addr))] w fun e w' =>
      e = .returned (.tuple #[]) ∧ ∃ M', WSt D w0 b rK rP rW rM w' M' ∧ Fr (fun i => i = rM ∨ i = r8) w w' ∧
        w'.heap[r8]? = some (.cells #[.int .i64 (max best ((enterR (getD D y).1 (room, 0)).2 + WS D n rest y (enterR (getD D y).1 (room, 0)).1))] 3) := by
  refine F84_calls _ _ _ _ _ _ _ _ w _ ?_
  refine alE_intro fun w1 hw1 => ?_
  have hp1 : Pu w w1 := by rw [hw1]; exact Pu.alloc w _
  have z1 : w1.heap.size = w.heap.size + 1 := by rw [hw1]; simp
  have hb5 : w1.heap[w.heap.size]? = some (.cells #[.string (stkS rest), .string y, .int .i64 0, .int .i64 0] 106) := by rw [hw1]; exact alloc_new w _
  have S1 := S.pu' hp1
  have l4 := blk_lt h4
  have l8 := blk_lt h8
  have lK := blk_lt S.k
  have lP := blk_lt S.p
  have lW := blk_lt S.f
  have lM := S.m.lt
  have g4 := hp1.blk h4
  have g8 := hp1.blk h8
  refine ⟨room, by rw [add_def, cell_blk g4]; rfl, some b, by rw [cell_blk S1.p]; rfl, y, by rw [add_def, cell_blk hb5]; rfl, _, _, w1, (look57 (hC.m.pu S1.pu) y).2, ?_⟩
  rw [(hC.r.get y).2.1]
  refine Calls.mono (enter_c w1 (room, 0) (getD D y).1 (by simp) (by simp)) ?_
  rintro e w5 ⟨rfl, hp5⟩
  refine ⟨_, _, rfl, ?_⟩
  have hbnd := enter_one (getD D y).1 room
  have hws := WS_bounds D n rest y (enterR (getD D y).1 (room, 0)).1
  generalize enterR (getD D y).1 (room, 0) = q at *
  refine boxA (by rfl) (by kernel_rfl) (by rfl) fun w7 hp7 hs7 hb7 => ?_
  refine dwE_intro fun w8 hp8 hh8 => ?_
  have z5 := hp5.size
  have z8 : w8.heap.size = w7.heap.size := by rw [hh8]
  have hp18 : Pu w1 w8 := (hp5.trans hp7).trans hp8
  have k6 := hp8.blk hb7
  have k4 := hp18.blk g4
  have k8' := hp18.blk g8
  have k5 := hp18.blk hb5
  refine ⟨fun w' => w'.heap[w5.heap.size]? = some (.cells #[.int .i64 q.1, .int .i64 q.2] 61) ∧ w'.heap[r4]? = some (.cells #[.string s0, .string t0, .int .i64 room, .int .i64 ((n : Int) + 1)] 106), ⟨k6, k4⟩, q.1, fun w' h => by rw [cell_blk h.1]; rfl, (n : Int) + 1, fun w' h => by rw [add_def, cell_blk h.2]; rfl, ?_⟩
  rw [add_def]
  refine st1_intro k5 (by show 0 + 2 < 4; omega) fun w10 hw10 hb10 => ?_
  have hf10 : Fr (· = w.heap.size) w8 w10 := by rw [hw10]; exact Fr.cell w8 _ _ _
  refine ⟨⟨hf10.blk k6 (by omega), hf10.blk k4 (by omega)⟩, ?_⟩
  rw [add_def, wrap_in (by omega) (by omega)]
  refine st1_intro hb10 (by show 0 + 3 < 4; omega) fun w11 hw11 hb11 => ?_
  have hf11 : Fr (· = w.heap.size) w10 w11 := by rw [hw11]; exact Fr.cell w10 _ _ _
  refine dwE_intro fun w12 hp12 hh12 => ?_
  have hf12 : Fr (· = w.heap.size) w1 w12 := (((Fr.pu hp18).trans hf10 fun i hi _ => hi).trans hf11 fun i hi _ => hi).trans (Fr.pu hp12) fun i hi _ => hi
  have S12 : WSt D w0 b rK rP rW rM w12 M := S1.fr hf12 (fun i hi => by have := S.pu.size; omega) (by omega) (by omega) (by omega) (by omega)
  have hb12 : w12.heap[w.heap.size]? = some (.cells #[.string (stkS rest), .string y, .int .i64 q.1, .int .i64 (n : Int)] 106) := by
    have := hp12.blk hb11
    rw [this]
    simp
  have j6 : w12.heap[w5.heap.size]? = some (.cells #[.int .i64 q.1, .int .i64 q.2] 61) := hp12.blk (hf11.blk (hf10.blk k6 (by omega)) (by omega))
  have j8 : w12.heap[r8]? = some (.cells #[.int .i64 best] 3) := hf12.blk g8 (by omega)
  refine ⟨fun w' => w'.heap[r8]? = some (.cells #[.int .i64 best] 3) ∧ w'.heap[w5.heap.size]? = some (.cells #[.int .i64 q.1, .int .i64 q.2] 61) ∧ w'.heap[rW]? = some (.cells #[worstFn rK rP rW] 104) ∧ w'.heap[w.heap.size]? = some (.cells #[.string (stkS rest), .string y, .int .i64 q.1, .int .i64 (n : Int)] 106),
    ⟨j8, j6, S12.f, hb12⟩, best, fun w' h => by rw [cell_blk h.1]; rfl, q.2, fun w' h => by rw [add_def, cell_blk h.2.1]; rfl, worstFn rK rP rW, fun w' h => by rw [cell_blk h.2.2.1]; rfl,
    stkS rest, fun w' h => by rw [add_def, cell_blk h.2.2.2]; rfl, y, fun w' h => by rw [add_def, cell_blk h.2.2.2]; rfl, q.1, fun w' h => by rw [cell_blk h.2.2.2]; rfl, (n : Int), fun w' h => by rw [cell_blk h.2.2.2]; rfl, by kernel_rfl, ?_⟩
  refine Calls.mono (ih rest y q.1 w12 M hn hr hy S12) ?_
  rintro e w15 ⟨rfl, M', S15, hf15⟩
  have m8 := hf15.blk j8 d8
  refine ⟨_, rfl, ⟨m8, hf15.blk j6 (by omega), S15.f, hf15.blk hb12 (by omega)⟩, _, w15, max_run _ _ _ _ _ _, ?_⟩
  rw [wrap_in (by omega) (by omega)]
  refine st1_intro m8 (by show 0 < 1; omega) fun w18 hw18 hb18 => ?_
  have hf18 : Fr (· = r8) w15 w18 := by rw [hw18]; exact Fr.cell w15 _ _ _
  refine ⟨rfl, M', S15.fr hf18 (fun i hi => by omega) k8 p8 f8 (Ne.symm d8), ?_, hb18⟩
  refine (((Fr.pu hp1).trans hf12 fun i hi hlt => ?_).trans hf15 fun i hi _ => .inl hi).trans hf18 fun i hi _ => .inr hi
  omega
end
end Go.Proofs.Ytcnenlmhbpijlaa

/- Link: the program's search for the worst walk, by steps. No condition but the reach's. -/
set_option maxRecDepth 100000
set_option linter.unusedVariables false
set_option linter.unusedSimpArgs false
namespace Go.Proofs.Ytcnenlmhbpijlaa
open Go.Sh Go.RowKit

theorem MemoOK.put {D : List PDat} {M : List (WK × Int)} (h : MemoOK D M) {n : Nat} {rest : List ByteArray} {top : ByteArray} {room : Int} (hr : ∀ x ∈ rest, nameB x = true) : MemoOK D (AL.put M ⟨stkS rest, top, room, (n : Int)⟩ (WS D n rest top room)) := by
  intro k v hv rest' hr' hk
  rw [AL.get_put] at hv
  split at hv
  · rename_i e
    subst e
    have hv := (Option.some.inj hv).symm
    have : rest = rest' := stkS_inj (fun x hx => (name_nosp (hr x hx)).1) hr' hk
    subst this
    exact ⟨Int.natCast_nonneg n, by rw [hv]; simp⟩
  · exact h k v hv rest' hr' hk

/-- One more way tried. -/
def bestS (D : List PDat) (n : Nat) (rest : List ByteArray) (room : Int) (y : ByteArray) : Int := (enterR (getD D y).1 (room, 0)).2 + WS D n rest y (enterR (getD D y).1 (room, 0)).1
theorem bestS_bounds (D : List PDat) (n : Nat) (rest : List ByteArray) (room : Int) (y : ByteArray) : 0 ≤ bestS D n rest room y ∧ bestS D n rest room y ≤ n + 1 := by
  have h1 := enter_one (getD D y).1 room
  have h2 := WS_bounds D n rest y (enterR (getD D y).1 (room, 0)).1
  unfold bestS
  omega
theorem bestL_bounds (D : List PDat) (n : Nat) (rest : List ByteArray) (room : Int) (l : List ByteArray) : 0 ≤ (l.map (bestS D n rest room)).foldl max 0 ∧ (l.map (bestS D n rest room)).foldl max 0 ≤ n + 1 :=
  ⟨(foldl_max_ge _ 0).1, foldl_max_le _ 0 (by omega) fun x hx => by obtain ⟨y, _, rfl⟩ := List.mem_map.1 hx; exact (bestS_bounds D n rest room y).2⟩
theorem WS_succ (D : List PDat) (n : Nat) (rest : List ByteArray) (top : ByteArray) (room : Int) : WS D (n + 1) rest top room = match rest with
    | [] => ((setS (getD D top).2).map (bestS D n (top :: rest) room)).foldl max 0
    | t :: r => max (((setS (getD D top).2).map (bestS D n (top :: rest) room)).foldl max 0) (bestS D n r room t) := by
  cases rest <;> rfl

section
variable {D : List PDat} {w0 : World} {b rK rP rW rM : Nat} {L : List PRow}

set_option maxHeartbeats 2000000 in
theorem worst_step (hC : WCtx w0 b L D) (hK : rK ≠ rM) (hP : rP ≠ rM) (hW : rW ≠ rM) (hM0 : w0.heap.size ≤ rM) (n : Nat) (ih : ∀ m, n = m + 1 → WorstC D w0 b rK rP rW rM m) : WorstC D w0 b rK rP rW rM n := by
  intro rest top room w M hn hr ht S
  refine F83_calls _ _ _ _ _ _ _ w _ ?_
  refine alE_intro fun w1 hw1 => ?_
  have hp1 : Pu w w1 := by rw [hw1]; exact Pu.alloc w _
  have z1 : w1.heap.size = w.heap.size + 1 := by rw [hw1]; simp
  have hb4 : w1.heap[w.heap.size]? = some (.cells #[.string (stkS rest), .string top, .int .i64 room, .int .i64 (n : Int)] 106) := by rw [hw1]; exact alloc_new w _
  have S1 := S.pu' hp1
  have lK := blk_lt S.k
  have lP := blk_lt S.p
  have lW := blk_lt S.f
  have lM := S.m.lt
  have hs0 := S.pu.size
  have hsp : ∀ x ∈ rest, NoSp x := fun x hx => (name_nosp (hr x hx)).1
  refine ⟨some rM, by rw [cell_blk S1.k]; rfl, stkS rest, by rw [add_def, cell_blk hb4]; rfl, top, by rw [add_def, cell_blk hb4]; rfl, room, by rw [add_def, cell_blk hb4]; rfl, (n : Int), by rw [add_def, cell_blk hb4]; rfl, _, _, w1, look103 S1.m ⟨stkS rest, top, room, (n : Int)⟩, Br.of (fun h => ?_) (fun h => ?_)⟩
  · obtain ⟨v, hv⟩ := Option.isSome_iff_exists.1 h
    have := (S.ok _ _ hv rest hsp rfl).2
    simp only [Int.toNat_natCast] at this
    exact ⟨by rw [hv, this]; rfl, M, S1, Fr.pu hp1⟩
  have hnone : AL.get M ⟨stkS rest, top, room, (n : Int)⟩ = none := by
    cases hg : AL.get M ⟨stkS rest, top, room, (n : Int)⟩ with
    | none => rfl
    | some v => rw [hg] at h; cases h
  refine ⟨(n : Int), by rw [add_def, cell_blk hb4]; rfl, Br.of (fun h0 => ?_) (fun h0 => ?_)⟩
  · have h0 : n = 0 := by have : (n : Int) = 0 := by simpa using h0
                          omega
    subst h0
    exact ⟨by rw [hnone]; rfl, M, S1, Fr.pu hp1⟩
  have h0 : n ≠ 0 := by intro e; subst e; simp at h0
  obtain ⟨m, rfl⟩ : ∃ m, n = m + 1 := ⟨n - 1, by omega⟩
  have ih := ih m rfl
  have hb4 : w1.heap[w.heap.size]? = some (.cells #[.string (stkS rest), .string top, .int .i64 room, .int .i64 ((m : Int) + 1)] 106) := hb4
  refine alE_intro fun w2 hw2 => ?_
  have hp2 : Pu w1 w2 := by rw [hw2]; exact Pu.alloc w1 _
  have z2 : w2.heap.size = w1.heap.size + 1 := by rw [hw2]; simp
  have hb8 : w2.heap[w1.heap.size]? = some (.cells #[.int .i64 0] 3) := by rw [hw2]; exact alloc_new w1 _
  refine st1_intro hb8 (by show 0 < 1; omega) fun w3 hw3 hb8 => ?_
  have hf3 : Fr (· = w1.heap.size) w2 w3 := by rw [hw3]; exact Fr.cell w2 _ _ _
  have z3 : w3.heap.size = w2.heap.size := by rw [hw3]; simp
  have hb8 : w3.heap[w1.heap.size]? = some (.cells #[.int .i64 0] 3) := hb8
  have hp13 : Pu w1 w3 := Pu.andNew hp2 hf3 fun i hi => by omega
  have S3 := S1.pu' hp13
  refine ⟨some b, by rw [cell_blk S3.p]; rfl, top, by rw [add_def, cell_blk (hp13.blk hb4)]; rfl, _, _, w3, (look57 (hC.m.pu S3.pu) top).2, ?_⟩
  refine setCount_c w3 _ _ ((hC.r.get top).2.2.pu S3.pu) (by have := hC.len top; omega) fun s' w4 hlen hrow hnew hp4 => ?_
  refine ⟨s', rfl, ?_⟩
  have S4 := S3.pu' hp4
  have z4 := hp4.size
  have g4 := hp4.blk (hp13.blk hb4)
  have g8 := hp4.blk hb8
  have hW1 := S4.m
  -- the end
  have fin : ∀ (w6 : World) (M6 : List (WK × Int)), WSt D w0 b rK rP rW rM w6 M6 → Fr (fun i => i = rM ∨ i = w1.heap.size) w4 w6 → w6.heap[w1.heap.size]? = some (.cells #[.int .i64 (WS D (m + 1) rest top room)] 3) →
      ∃ m68 : Option Nat, w6.cell? (⟨rK, 0, none⟩ : Addr) = some (.map m68) ∧
      ∃ s69_0 : ByteArray, w6.cell? ((⟨w.heap.size, 0, none⟩ : Addr).add 0) = some (.string s69_0) ∧
      ∃ s69_1 : ByteArray, w6.cell? ((⟨w.heap.size, 0, none⟩ : Addr).add 1) = some (.string s69_1) ∧
      ∃ n69_2 : Int, w6.cell? ((⟨w.heap.size, 0, none⟩ : Addr).add 2) = some (.int .i64 n69_2) ∧
      ∃ n69_3 : Int, w6.cell? ((⟨w.heap.size, 0, none⟩ : Addr).add 3) = some (.int .i64 n69_3) ∧
      ∃ n70 : Int, w6.cell? (⟨w1.heap.size, 0, none⟩ : Addr) = some (.int .i64 n70) ∧
      doE Try.prog (Instr.mapUpdate 103 (.map m68) (.agg #[.string s69_0, .string s69_1, .int .i64 n69_2, .int .i64 n69_3]) (.int .i64 n70)) w6 fun w10 =>
      ∃ n71 : Int, w10.cell? (⟨w1.heap.size, 0, none⟩ : Addr) = some (.int .i64 n71) ∧
      runD Try.prog [] w10 fun w12 =>
      (Ending.returned (.int .i64 n71) = .returned (.int .i64 (WS D (m + 1) rest top room)) ∧ ∃ M', WSt D w0 b rK rP rW rM w12 M' ∧ Fr (· = rM) w w12) := fun w6 M6 S6 hf6 hb6 => by
    have j4 := hf6.blk g4 (by omega)
    refine ⟨some rM, by rw [cell_blk S6.k]; rfl, stkS rest, by rw [add_def, cell_blk j4]; rfl, top, by rw [add_def, cell_blk j4]; rfl, room, by rw [add_def, cell_blk j4]; rfl, (m : Int) + 1, by rw [add_def, cell_blk j4]; rfl, WS D (m + 1) rest top room, by rw [cell_blk hb6]; rfl, ?_⟩
    obtain ⟨w10, hrun, hm10, hf10, hz10⟩ := put103 S6.m ⟨stkS rest, top, room, (m : Int) + 1⟩ (WS D (m + 1) rest top room)
    refine ⟨w10, hrun, WS D (m + 1) rest top room, by rw [cell_blk (hf10.blk hb6 (by omega))]; rfl, rfl, AL.put M6 ⟨stkS rest, top, room, ((m + 1 : Nat) : Int)⟩ (WS D (m + 1) rest top room), ?_, ?_⟩
    · exact ⟨Pu.andNew S6.pu hf10 fun i hi => by omega, hf10.blk S6.k hK, hf10.blk S6.p hP, hf10.blk S6.f hW, hm10, S6.ok.put hr⟩
    · refine ((((Fr.pu hp1).trans (Fr.pu hp13) fun i hi _ => hi).trans (Fr.pu hp4) fun i hi _ => hi).trans hf6 fun i hi hlt => ?_).trans hf10 fun i hi _ => hi
      omega
  have hsz : ∀ r : List ByteArray, (∀ x ∈ r, nameB x = true) → r.length ≤ 1000 → (stkS r).size ≤ 11000 := fun r h1 h2 => by have := stkS_size h1; omega
  have htop := (name_nosp ht).2
  have hlim : (setS (getD D top).2).length ≤ 100 := by
    have h1 := cptFrom_len (srt (getD D top).2) none
    rw [srt_length] at h1
    have h2 := hC.len top
    show (cptFrom none _).length ≤ 100
    omega
  refine loopUp (setS (getD D top).2).length (fun k t w' => t = (k : Int) ∧ ∃ M', WSt D w0 b rK rP rW rM w' M' ∧ Fr (fun i => i = rM ∨ i = w1.heap.size) w4 w' ∧ w'.heap[w1.heap.size]? = some (.cells #[.int .i64 ((((setS (getD D top).2).take k).map (bestS D m (top :: rest) room)).foldl max 0)] 3))
    ⟨rfl, M, S4, Fr.refl _ _, g8⟩ ?_
  rintro k J t w5 hk ⟨rfl, M5, S5, hf5, hb5⟩ hJ
  have hbd := bestL_bounds D m (top :: rest) room ((setS (getD D top).2).take k)
  have j4 := hf5.blk g4 (by omega)
  have hns : ∀ x ∈ top :: rest, nameB x = true := fun x hx => by
    rcases List.mem_cons.1 hx with rfl | hx
    · exact ht
    · exact hr x hx
  refine Br.of (fun hlt => ?_) (fun hge => ?_)
  · have hlt' : k < (setS (getD D top).2).length := by have := dtrue hlt; omega
    obtain ⟨y, hy⟩ := at_k hlt'
    have hrow5 : RowAt w5 9 1 s' (strV (setS (getD D top).2)) := hrow.fr hf5 fun i hi hx => by have := hnew i hi; omega
    obtain ⟨a, ha, hc, _⟩ := hrow5.cell (j := k) (v := .string y) (by simp [hy])
    have hyn : nameB y = true := hC.name top y (mem_setS.1 (List.mem_of_getElem? hy))
    have hsr := hsz rest hr (by omega)
    have hs1 : (⟨#[32]⟩ : ByteArray).size = 1 := rfl
    have hs2 : (stkS rest ++ (⟨#[32]⟩ : ByteArray)).size = (stkS rest).size + 1 := by rw [ByteArray.size_append]; rfl
    refine ⟨a, ha, by omega, by omega, y, by simpa using hc, stkS rest, by rw [cell_blk j4]; rfl, by omega, top, by rw [add_def, cell_blk j4]; rfl, by omega, by kernel_rfl, ?_⟩
    refine Calls.mono (try_c hC hK hP hW hM0 ih (top :: rest) y (by simp only [List.length_cons]; omega) hns hyn w5 M5 S5 w.heap.size w1.heap.size (stkS rest) top room _ hbd.1 hbd.2 j4 hb5 (by omega) (by omega) (by omega) (by omega) (by omega) (by omega) (by omega)) ?_
    rintro e w6 ⟨rfl, M6, S6, hf6, hb6⟩
    refine ⟨rfl, ?_⟩
    rw [wrap_in (by omega) (by omega)]
    refine hJ _ _ hlt' ⟨rfl, M6, S6, hf5.trans hf6 fun i hi _ => hi, ?_⟩
    rw [take_at hy, List.map_append, List.foldl_append]
    exact hb6
  · have hge' : ¬ k < (setS (getD D top).2).length := by have := dfalse hge; omega
    rw [List.take_of_length_le (by omega)] at hb5 hbd
    refine ⟨stkS rest, by rw [cell_blk j4]; rfl, ?_⟩
    refine Calls.mono (Try.strings_LastIndex_one (stkS rest) ⟨#[32]⟩ rfl (by have := hsz rest hr (by omega); omega) w5) ?_
    rintro e w6 ⟨rfl, rfl⟩
    refine ⟨_, rfl, ?_⟩
    rw [show (((⟨#[32]⟩ : ByteArray)[0]'(by decide)).toNat : Int) = 32 from rfl]
    cases rest with
    | nil =>
      rw [show stkS [] = ⟨#[]⟩ from rfl, last_none]
      refine Br.f rfl ?_
      exact fin w6 M5 S5 hf5 (by rw [WS_succ]; exact hb5)
    | cons t r =>
      have htn := hr t List.mem_cons_self
      have hrn : ∀ x ∈ r, nameB x = true := fun x hx => hr x (List.mem_cons_of_mem _ hx)
      have hsr := hsz r hrn (by simp only [List.length_cons] at hn; omega)
      have htl := (name_nosp htn).2
      rw [show stkS (t :: r) = (stkS r ++ space) ++ t from rfl, last_push _ _ (name_nosp htn).1]
      have hss : ((stkS r ++ space) ++ t).size = (stkS r).size + 1 + t.size := by rw [ByteArray.size_append, ByteArray.size_append]; rfl
      refine Br.t (by simp) ?_
      refine dwE_intro fun w7 hp7 hh7 => ?_
      have i4 := hp7.blk j4
      rw [wrap_in (by omega) (by omega), Int.toNat_natCast, show (((stkS r).size : Int) + 1).toNat = (stkS r).size + 1 by omega]
      refine ⟨(stkS r ++ space) ++ t, by rw [cell_blk i4]; rfl, by omega, by omega, by omega, (stkS r ++ space) ++ t, by rw [cell_blk i4]; rfl, by omega, by omega, by omega, by kernel_rfl, ?_⟩
      rw [pop_below, pop_top]
      have hb7 := hp7.blk hb5
      refine Calls.mono (try_c hC hK hP hW hM0 ih r t (by simp only [List.length_cons] at hn; omega) hrn htn w7 M5 (S5.pu' hp7) w.heap.size w1.heap.size (stkS (t :: r)) top room _ hbd.1 hbd.2 i4 hb7 (by omega) (by omega) (by omega) (by omega) (by omega) (by omega) (by omega)) ?_
      rintro e w8 ⟨rfl, M8, S8, hf8, hb8⟩
      refine ⟨rfl, ?_⟩
      exact fin w8 M8 S8 ((hf5.trans (Fr.pu hp7) fun i hi _ => hi).trans hf8 fun i hi _ => hi) (by rw [WS_succ]; exact hb8)
theorem worst_c (hC : WCtx w0 b L D) (hK : rK ≠ rM) (hP : rP ≠ rM) (hW : rW ≠ rM) (hM0 : w0.heap.size ≤ rM) : ∀ n, WorstC D w0 b rK rP rW rM n := by
  intro n
  induction n with
  | zero => exact worst_step hC hK hP hW hM0 0 fun m h => by omega
  | succ n ih => exact worst_step hC hK hP hW hM0 (n + 1) fun m h => by rw [show m = n by omega]; exact ih
end
end Go.Proofs.Ytcnenlmhbpijlaa
