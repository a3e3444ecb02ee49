import Derived.Test.YtnigfiljenfgjaaGreatDzOwE
import Derived.Sort.MapsRangeIn
import Derived.Test.YtnigfiljenfgjaaGreatDzPrA
import Derived.Test.YtnigfiljenfgjaaGreatDzOwC
import Derived.Test.YtnigfiljenfgjaaGreatShTwelve
import Derived.Shelf.Sort.Plain
import Derived.Shelf.Slices.In.SortNone
import Derived.Test.YtnigfiljenfgjaaGreatProg
import Derived.Test.YtnigfiljenfgjaaGreatDzOwD
import Derived.Sort.OwnSortedInts
/- The library's iterator over the keys of a map with keys of texts, maps.Keys. No condition but the reach's. -/
set_option maxRecDepth 100000
set_option linter.unusedVariables false
set_option linter.unusedSectionVars false
set_option linter.unusedSimpArgs false
namespace Go.Proofs.YtnigfiljenfgjaaGreat
open Go.RowKit Go.Shelf Go.Sh
section
variable {κ ν : Type} [DecidableEq κ] {ek : κ -> Value} {ev : ν -> Value} {P : Program} {F : Fence} {n : Nat} {ops : Array Oper} {Q : Exit -> Act -> World -> Prop} {rest : List Oper} {a : Act} {w : World} {o : Oper}
def leftAt (r b : Nat) (w : World) : Nat := match w.heap[r]?, w.heap[b]? with
  | some (.mapIter _ _ seen _), some (.map es _) => (leftOf es seen).size
  | _, _ => 0
theorem leftAt_eq {r b : Nat} {l todo : List (κ × ν)} (h : IterAt w ek ev r b l todo) : leftAt r b w = todo.length := by
  obtain ⟨es, clk, since, seen, c0, h1, h2, _, _, _, h6, _⟩ := h
  have := h6.length
  rw [Array.length_toList] at this
  simp only [leftAt, h1, h2, this]
theorem iter_walks {w' : World} {r b : Nat} {l todo : List (κ × ν)} (h : IterAt w ek ev r b l todo) (hk : KeepsWalks w w') (hb : w'.heap[b]? = w.heap[b]?) : IterAt w' ek ev r b l todo := by
  obtain ⟨es, clk, since, seen, c0, h1, h2, h3⟩ := h
  exact ⟨es, clk, since, seen, c0, hk.same r _ h1 rfl, hb.trans h2, h3⟩
theorem iter_walk {r b : Nat} {l todo : List (κ × ν)} (h : IterAt w ek ev r b l todo) : ∃ o : Obj, w.heap[r]? = some o /\ o.isWalk = true := by
  obtain ⟨es, clk, since, seen, c0, h1, _⟩ := h
  exact ⟨_, h1, rfl⟩
theorem grown_of_fr {w' : World} {r : Nat} (h : Fr (· = r) w w') : w.grownBy w' (some r) := ⟨h.os, h.tape, h.output, h.size, fun k hk hn => h.block k hk fun e => hn (by rw [e])⟩
theorem grown_of_pu {w' : World} (h : Pu w w') : w.grownBy w' none := ⟨h.os, h.tape, h.output, h.size, fun k hk _ => h.block k hk⟩
theorem wpListIn_range_at (hg : o.guard = none) (m : Operand) (t kt e : TypeId) (hop : o.op = Op.range t m) (ht : P.underlying t = some (.map kt e)) (b : Nat) (l : List (κ × ν)) (hm : a.eval m = .map (some b)) (h : MapAt w ek ev b l)
    (hK : ∀ w', IterAt w' ek ev w.heap.size b l l -> Pu w w' -> w'.heap.size = w.heap.size + 1 -> wpListIn F n P ops Q rest (a.put o.dst (.pointer (some ⟨w.heap.size, 0, none⟩))) w') : wpListIn F n P ops Q (o :: rest) a w := by
  refine wpListIn_plain hg fun K' hK' => ?_
  obtain ⟨w', hrun, r1, r2, r3⟩ := h.range ht
  unfold Oper.wpIn
  refine ⟨?_, ?_⟩
  · simp [Oper.about, hop]
  · rw [Oper.semAt_plain F _ _ (by rw [hop]; intro c hc'; cases hc')]
    simp [execOp, hop, hm, hrun, Result.andThen]
    exact hK' _ _ (hK w' r1 r2 r3)
theorem wpListIn_next_at (hg : o.guard = none) (it : Operand) (hop : o.op = Op.next it false) (b r : Nat) (l todo : List (κ × ν)) (hit : a.eval it = .pointer (some ⟨r, 0, none⟩)) (h : IterAt w ek ev r b l todo)
    (hDone : todo = [] -> wpListIn F n P ops Q rest (a.put o.dst (.tuple #[.bool false])) w)
    (hMore : ∀ p w', p ∈ todo -> Fr (· = r) w w' -> w'.heap.size = w.heap.size -> IterAt w' ek ev r b l (AL.del todo p.1) -> (Instr.entry (.pointer (some ⟨r, 0, none⟩))).run P w' = .ok (.tuple #[ek p.1, ev p.2]) w' -> wpListIn F n P ops Q rest (a.put o.dst (.tuple #[.bool true, ek p.1, ev p.2])) w') :
    wpListIn F n P ops Q (o :: rest) a w := by
  refine wpListIn_plain hg fun K' hK' => ?_
  unfold Oper.wpIn
  refine ⟨by simp [Oper.about, hop], ?_⟩
  rw [Oper.semAt_plain F _ _ (by rw [hop]; intro c hc'; cases hc')]
  rcases IterAt.next (P := P) h o.type with ⟨h0, hrun⟩ | ⟨p, hp, w', hrun, hf, hs, hI, hen⟩
  · simp [execOp, hop, hit, hrun, Result.andThen]
    exact hK' _ _ (hDone h0)
  · simp [execOp, hop, hit, hrun, Result.andThen]
    exact hK' _ _ (hMore p w' hp hf hs hI hen)
end
theorem srt_congr {l l' : List ByteArray} (h : l.Perm l') : srt l = srt l' :=
  List.Perm.eq_of_pairwise (le := fun a b => bLe a b = true) (fun a b _ _ h k => bLe_antisymm h k) (srt_sorted l) (srt_sorted l') (((srt_perm l).trans h).trans (srt_perm l').symm)
theorem keys_und_55 : ∃ e, Tryz.prog.underlying 55 = some (.map 9 e) := ⟨36, by kernel_rfl⟩
set_option maxHeartbeats 2000000 in
theorem keys1_in_101 {ν : Type} {ev : ν -> Value} (F : Fence) (n : Nat) (h10 : F.fn 101) (hro : F.round = none) (hn : 1 <= n) (l Bs n₀ b : Nat) (L : List (ByteArray × ν)) (hb : b < n₀) (J Jx : List ByteArray -> World -> Prop)
    (W : World) (hn₀ : n₀ <= W.heap.size) (hJ : AbidesFrom W.heap.size J)
    (hY : ∀ pre x W1, J pre W1 -> pre.length < L.length -> YieldAt F (n - 1) Tryz.prog l #[.string x] W1 fun e W' =>
      (e = .returned (.bool true) /\ J (pre ++ [x]) W' /\ KeepB n₀ W1 W') ∨ (e = .returned (.bool false) /\ Jx (pre ++ [x]) W'))
    (hBs : W.cell? ⟨Bs, 0, none⟩ = some (.map (some b))) (hM : MapAt W (fun s : ByteArray => Value.string s) ev b L) (h0 : J [] W) :
    CallsIn F n Tryz.prog 101 #[.func (.yield l) #[] #[], .pointer (some ⟨Bs, 0, none⟩)] W fun e W' => (∃ v, e = .returned v) /\
      ((∃ ys, ys.Perm (L.map Prod.fst) /\ J ys W') ∨ (∃ pre, True /\ Jx pre W')) := by
  obtain ⟨et, hund⟩ := keys_und_55
  refine callsIn_of_wp Tryz.func101 rfl h10 ?_ hro
  simp only [Tryz.ntmps101, List.size_toArray, List.length_cons, List.length_nil, Nat.reduceAdd, Nat.reduceSub, Array.replicate_succ, Array.replicate_zero, List.push_toArray, List.append_toArray, List.nil_append, List.cons_append]
  gi_wp2_with (first
    | (gi_at_range; refine wpListIn_range_at rfl _ 55 9 et rfl hund b L rfl hM ?_; intro w0 hI0 hp0 hs0)
    | gi_in)
  go_frame
  gi_loopw [3] (fun _ wr => ∃ (todo : List (ByteArray × ν)) (ss : List ByteArray), IterAt wr (fun s : ByteArray => Value.string s) ev W.heap.size b L todo /\ (ss ++ todo.map Prod.fst).Perm (L.map Prod.fst) /\ J ss wr /\ n₀ <= wr.heap.size)
    (fun _ wr => leftAt W.heap.size b wr)
  case atStart =>
    exact ⟨L, [], hI0, by simp, hJ [] W w0 none h0 (grown_of_pu hp0) (fun r e => by cases e), by omega⟩
  case round =>
    obtain ⟨todo, ss, hI, hperm, hJs, hnr⟩ := hrel
    gi_wp2_with (first
      | (gi_at_next; refine wpListIn_next_at rfl _ rfl b W.heap.size L todo rfl hI ?_ ?_)
      | gi_in)
    · intro ht0
      subst ht0
      gi_wp2
      go_end0
      exact ⟨⟨_, rfl⟩, .inl ⟨ss, by simpa using hperm, hJs⟩⟩
    · intro x c w2 hp hf hs hI2 hen
      have hJ2 : J ss w2 := hJ ss wr w2 (some W.heap.size) hJs (grown_of_fr hf) (fun r e => by cases e; exact ⟨Nat.le_refl _, iter_walk hI⟩)
      have hpd := AL.perm_del hp hI.nodup
      have hlen : ss.length < L.length := by
        have h1 := hperm.length_eq
        have h2 := hpd.length_eq
        simp at h1 h2
        omega
      obtain ⟨fn, tmps, assign, body, hy, hR⟩ := hY ss x w2 hJ2 hlen
      have hleft := leftAt_eq hI
      clear hs
      gi_wp2
      refine hR.mono ?_
      rintro e W3 (⟨rfl, hJ3, hB3, hK3⟩ | ⟨rfl, hJx3⟩)
      · gi_wp2
        have hI3 := iter_walks hI2 hK3 (hB3.block b hb)
        go_roundw
        case rel =>
          refine ⟨_, ss ++ [x], hI3, ?_, hJ3, by have := hf.size; have := hB3.size; omega⟩
          have h3 := hpd.map Prod.fst
          rw [List.append_assoc]
          exact ((List.Perm.append_left ss h3).symm).trans hperm
        case measure =>
          have h1 := leftAt_eq hI3
          have h2 := hpd.length_eq
          simp at h2
          omega
      · gi_wp2
        refine bodyPost_ret (results_none rfl _ _ _) rfl ?_
        exact ⟨⟨_, rfl⟩, .inr ⟨ss ++ [x], trivial, hJx3⟩⟩
theorem keys_stops_101 {ν : Type} {ev : ν -> Value} (F : Fence) (n : Nat) (h10 : F.fn 101) (hro : F.round = none) (hn : 1 <= n) (Bs b : Nat) (L : List (ByteArray × ν)) (w : World) (hBs : Bs < w.heap.size)
    (hc : w.cell? ⟨Bs, 0, none⟩ = some (.map (some b))) (hM : MapAt w (fun s : ByteArray => Value.string s) ev b L) :
    SeqStopsK F n Tryz.prog 101 #[.pointer (some ⟨Bs, 0, none⟩)] (fun x : ByteArray => #[Value.string x]) (KeepB w.heap.size) (fun ys => ys.Perm (L.map Prod.fst)) (fun _ => True) L.length w := fun l J Jx W hW hJ _ hY h0 => by
  have hM' : MapAt W (fun s : ByteArray => Value.string s) ev b L := by
    have hbl := hM.lt
    obtain ⟨es, clk, h1, h2⟩ := hM
    exact ⟨es, clk, (hW.block b hbl).trans h1, h2⟩
  exact keys1_in_101 F n h10 hro hn l Bs w.heap.size b L hM.lt J Jx W hW.size hJ hY ((hW.cell (p := ⟨Bs, 0, none⟩) hBs).trans hc) hM' h0
theorem sortedKeys_101 {ν : Type} {ev : ν -> Value} (w0 : World) (b : Nat) (L : List (ByteArray × ν)) (hM : MapAt w0 (fun s : ByteArray => Value.string s) ev b L) (hN : L.length <= 8796093022208) :
    Calls Tryz.prog 51 #[.func (.func 101) #[] #[.pointer (some ⟨w0.heap.size, 0, none⟩)]] (w0.alloc (.cells #[.map (some b)] 55)) fun e w' => ∃ s' : SV, e = .returned (.slice s'.a s'.len s'.cap) /\ RowAt w' 9 1 s' (strV (srt (L.map Prod.fst))) /\ (∀ k ∈ blkOf s', w0.heap.size < k) /\ Pu w0 w' := by
  obtain ⟨w, hw⟩ : ∃ w, w = w0.alloc (.cells #[.map (some b)] 55) := ⟨_, rfl⟩
  have hp : Pu w0 w := by rw [hw]; exact Pu.alloc w0 _
  have hsz : w.heap.size = w0.heap.size + 1 := by rw [hw]; simp
  have hb : w.heap[w0.heap.size]? = some (.cells #[.map (some b)] 55) := by rw [hw]; exact alloc_new w0 _
  rw [← hw]
  have hseq := keys_stops_101 Fence.wide 9 trivial rfl (by omega) w0.heap.size b L w (by omega) (by rw [cell_blk hb]; rfl) (hM.pu hp)
  refine Calls.mono (sorted_c 101 #[.pointer (some ⟨w0.heap.size, 0, none⟩)] (enters_of Tryz.func101 (by kernel_rfl) rfl) _ _ L.length hN w (fun xs h => by have := h.length_eq; simp at this; omega) hseq) ?_
  rintro e w' ⟨s', xs, rfl, hxs, hrow, hf, hp'⟩
  rw [srt_congr hxs] at hrow
  exact ⟨s', rfl, hrow, fun k hk => by have := hf k hk; omega, hp.trans hp'⟩
end Go.Proofs.YtnigfiljenfgjaaGreat

/- The disk's reference: the names of its files; lists of texts compared. -/
set_option maxRecDepth 100000
set_option linter.unusedVariables false
set_option linter.unusedSimpArgs false
namespace Go.Proofs.YtnigfiljenfgjaaGreat
open Go.Sh Go.RowKit
variable {w w' : World} {r : RLay} {ρ : RSys}
theorem u42 : Tryz.prog.underlying 42 = some (.slice 9) := by kernel_rfl
theorem info9 : (Tryz.prog.info? 9).map (fun i => (i.zero, i.size, i.bytes)) = some (some (.string ⟨#[]⟩), 1, 16) := by kernel_rfl
theorem rFiles_c (h : RSysAt w r ρ) (hfc : ρ.files.length <= 1000) : Calls Tryz.prog 63 #[r.ptr] w fun e w' => ∃ l : SV, e = .returned (.slice l.a l.len l.cap) /\ RowAt w' 9 1 l (strV (ρ.files.map Prod.fst)) /\ (∀ b ∈ blkOf l, w.heap.size <= b) /\ Pu w w' := by
  refine F63_calls _ w _ ?_
  have hfl := h.fl.len (fcells_len r.fb) (by omega)
  refine loopUp ρ.files.length (fun k t w' => t.2 = (k : Int) /\ RowAt w' 9 1 t.1 (strV ((ρ.files.take k).map Prod.fst)) /\ (∀ b ∈ blkOf t.1, w.heap.size <= b) /\ Pu w w') ⟨rfl, RowAt.nil _ _ _, by simp [blkOf], Pu.refl _⟩ ?_
  rintro k J ⟨s, t⟩ w2 hk ⟨ht, hrow, hb, hp⟩ hJ
  obtain rfl : t = (k : Int) := ht
  have hrow : RowAt w2 9 1 s (strV ((ρ.files.take k).map Prod.fst)) := hrow
  have hb : ∀ b ∈ blkOf s, w.heap.size <= b := hb
  dsimp only
  have h2 := h.pu hp
  refine ⟨r.fs, h2.cell0, Br.of (fun d1 => ?_) (fun d1 => ?_)⟩
  · have hkn : k < ρ.files.length := by have := dtrue d1; omega
    obtain ⟨f, hf⟩ := at_k hkn
    obtain ⟨a, ha, hi, c0⟩ := h2.fl.elem (fcells_len r.fb) hf (o := 0) (v := .string f.1) rfl
    rw [add0] at c0
    refine ⟨r.fs, h2.cell0, a, ha, by omega, by omega, f.1, by rw [Int.toNat_natCast]; exact c0, ?_⟩
    refine alE_intro fun w3 hw3 => ?_
    have hp3 : Pu w2 w3 := by rw [hw3]; exact Pu.alloc w2 _
    have hn3 : w3.heap[w2.heap.size]? = some (.cells #[.string f.1] 9) := by rw [hw3]; exact alloc_new w2 _
    have hsl : s.len = k := by have := hrow.1; simp at this; omega
    obtain ⟨s', w4, hra, hrow4, hf4, hblk4, _⟩ := row_push (P := Tryz.prog) (ty := 42) u42 info9 rfl (hrow.pu hp3) (a := ⟨w2.heap.size, 0, none⟩) (u := .string f.1) (by rw [cell_blk hn3]; rfl) rfl (by omega)
    refine ⟨s', w4, hra, ?_⟩
    rw [wrap_in (by omega) (by omega)]
    have z2 := hp.size
    have z3 := hp3.size
    refine hJ _ _ hkn ⟨rfl, ?_, fun b hb' => ?_, (hp.trans hp3).andNew hf4 fun i hi => hb i hi⟩
    · have htk : ρ.files.take (k + 1) = ρ.files.take k ++ [f] := by rw [List.take_add_one, hf]; rfl
      rw [htk]
      simpa using hrow4
    · rcases hblk4 b hb' with h5 | h5
      · exact hb b h5
      · omega
  · have hkn : k = ρ.files.length := by have := dfalse d1; omega
    subst hkn
    rw [List.take_length] at hrow
    exact ⟨s, rfl, hrow, hb, hp⟩
theorem at_all {α : Type} {a b : List α} (hl : a.length = b.length) (h : ∀ (k : Nat) x y, k < a.length -> a[k]? = some x -> b[k]? = some y -> x = y) : a = b := by
  apply List.ext_getElem?
  intro k
  by_cases hk : k < a.length
  · obtain ⟨x, hx⟩ := at_k hk
    obtain ⟨y, hy⟩ := at_k (l := b) (k := k) (by omega)
    rw [hx, hy, h k x y hk hx hy]
  · rw [List.getElem?_eq_none (by omega), List.getElem?_eq_none (by omega)]
theorem sameTexts_c {w : World} {s t : SV} {a b : List ByteArray} (ha : RowAt w 9 1 s (strV a)) (hb : RowAt w 9 1 t (strV b)) : Calls Tryz.prog 64 #[.slice s.a s.len s.cap, .slice t.a t.len t.cap] w fun e w' => ∃ c : Bool, e = .returned (.bool c) /\ (c = true ↔ a = b) /\ Pu w w' := by
  refine F64_calls s t w _ ?_
  have hla : s.len = a.length := by have := ha.1; simpa using this.symm
  have hlb : t.len = b.length := by have := hb.1; simpa using this.symm
  have hc := ha.le_cap
  have hm : maxLen = 9223372036854775807 := by unfold maxLen; omega
  refine Br.of (fun d => ?_) (fun d => ?_)
  · refine ⟨false, rfl, ⟨fun h => (by cases h), fun h => ?_⟩, Pu.refl _⟩
    subst h; rw [hla, hlb] at d; simp at d
  have hl : a.length = b.length := by
    rw [hla, hlb] at d
    have : ((a.length : Nat) : Int) = b.length := by simpa using d
    omega
  refine loopUp a.length (fun k t w' => t = (k : Int) /\ Pu w w' /\ ∀ (j : Nat) x y, j < k -> a[j]? = some x -> b[j]? = some y -> x = y) ⟨rfl, Pu.refl _, fun j x y hj => absurd hj (by omega)⟩ ?_
  rintro k J t w2 hk ⟨rfl, hp2, hall⟩ hJ
  refine Br.of (fun d1 => ?_) (fun d1 => ?_)
  · have hkn : k < a.length := by have := dtrue d1; omega
    refine dwE_intro fun w3 hp3 hh3 => ?_
    obtain ⟨x, hx⟩ := at_k hkn
    obtain ⟨y, hy⟩ := at_k (l := b) (k := k) (by omega)
    obtain ⟨a1, ha1, hc1, _⟩ := ((ha.pu hp2).pu hp3).cell (j := k) (v := .string x) (by rw [List.getElem?_map, hx]; rfl)
    obtain ⟨a2, ha2, hc2, _⟩ := ((hb.pu hp2).pu hp3).cell (j := k) (v := .string y) (by rw [List.getElem?_map, hy]; rfl)
    refine ⟨a1, ha1, by omega, by omega, x, by rw [Int.toNat_natCast, Nat.mul_one]; exact hc1, a2, ha2, by omega, by omega, y, by rw [Int.toNat_natCast, Nat.mul_one]; exact hc2, ?_⟩
    rw [toList_beq]
    refine Br.of (fun d2 => ?_) (fun d2 => ?_)
    · refine ⟨false, rfl, ⟨fun h => (by cases h), fun h => ?_⟩, hp2.trans hp3⟩
      subst h; rw [hx] at hy; cases hy; simp at d2
    · have hxy : x = y := by simpa using d2
      rw [wrap_in (by omega) (by omega)]
      refine hJ _ _ hkn ⟨rfl, hp2.trans hp3, fun j u v hj hu hv => ?_⟩
      by_cases e : j = k
      · subst e; rw [hx] at hu; rw [hy] at hv; cases hu; cases hv; exact hxy
      · exact hall j u v (by omega) hu hv
  · have hkn : k = a.length := by have := dfalse d1; omega
    subst hkn
    exact ⟨true, rfl, ⟨fun _ => at_all hl fun j x y hj => hall j x y hj, fun _ => rfl⟩, hp2⟩
end Go.Proofs.YtnigfiljenfgjaaGreat

/- The disk's reference: locks as rows of four numbers; which comes first. -/
set_option maxRecDepth 100000
set_option linter.unusedVariables false
set_option linter.unusedSimpArgs false
namespace Go.Proofs.YtnigfiljenfgjaaGreat
open Go.Sh Go.RowKit
variable {w w' : World}
structure Q4 where
  a : Int
  b : Int
  c : Int
  d : Int
deriving DecidableEq
def Q4.cells (x : Q4) : List Value := [.int .i64 x.a, .int .i64 x.b, .int .i64 x.c, .int .i64 x.d]
theorem Q4.len (x : Q4) : (Q4.cells x).length = 4 := rfl
def Q4.g (x : Q4) (i : Nat) : Int := match i with
  | 0 => x.a
  | 1 => x.b
  | 2 => x.c
  | _ => x.d
def lexFrom (f g : Nat -> Int) : Nat -> Bool
  | 0 => false
  | m + 1 => if f (3 - m) ≠ g (3 - m) then decide (f (3 - m) < g (3 - m)) else lexFrom f g m
def q4Lt (x y : Q4) : Bool := lexFrom x.g y.g 4
theorem Q4.at (x : Q4) {i : Nat} (hi : i < 4) : (#[.int .i64 x.a, .int .i64 x.b, .int .i64 x.c, .int .i64 x.d] : Array Value)[i]? = some (.int .i64 (x.g i)) := by
  rcases (by omega : i = 0 ∨ i = 1 ∨ i = 2 ∨ i = 3) with rfl | rfl | rfl | rfl <;> rfl
theorem less_c (w : World) (x y : Q4) : Calls Tryz.prog 106 #[.agg #[.int .i64 x.a, .int .i64 x.b, .int .i64 x.c, .int .i64 x.d], .agg #[.int .i64 y.a, .int .i64 y.b, .int .i64 y.c, .int .i64 y.d]] w fun e w' => e = .returned (.bool (q4Lt x y)) /\ Pu w w' := by
  refine F106_calls _ _ _ _ _ _ _ _ w _ ?_
  refine alE_intro fun w1 hw1 => alE_intro fun w2 hw2 => ?_
  have hp1 : Pu w w1 := by rw [hw1]; exact Pu.alloc w _
  have hp2 : Pu w1 w2 := by rw [hw2]; exact Pu.alloc w1 _
  have hb1 : w2.heap[w.heap.size]? = some (.cells #[.int .i64 x.a, .int .i64 x.b, .int .i64 x.c, .int .i64 x.d] 103) := hp2.blk (by rw [hw1]; exact alloc_new w _)
  have hb2 : w2.heap[w1.heap.size]? = some (.cells #[.int .i64 y.a, .int .i64 y.b, .int .i64 y.c, .int .i64 y.d] 103) := by rw [hw2]; exact alloc_new w1 _
  refine loopUp 4 (fun k t w' => t = (k : Int) /\ Pu w2 w' /\ q4Lt x y = lexFrom x.g y.g (4 - k)) ⟨rfl, Pu.refl _, rfl⟩ ?_
  rintro k J t w3 hk ⟨rfl, hp3, hq⟩ hJ
  have cx : ∀ {wz : World}, Pu w2 wz -> k < 4 -> wz.cell? ((⟨w.heap.size, 0, none⟩ : Addr).add ((k : Int).toNat * 1)) = some (.int .i64 (x.g k)) := fun {wz} hz hk => by rw [add_def, cell_blk (hz.blk hb1), show 0 + (k : Int).toNat * 1 = k by omega]; exact x.at hk
  have cy : ∀ {wz : World}, Pu w2 wz -> k < 4 -> wz.cell? ((⟨w1.heap.size, 0, none⟩ : Addr).add ((k : Int).toNat * 1)) = some (.int .i64 (y.g k)) := fun {wz} hz hk => by rw [add_def, cell_blk (hz.blk hb2), show 0 + (k : Int).toNat * 1 = k by omega]; exact y.at hk
  refine Br.of (fun d1 => ?_) (fun d1 => ?_)
  · have hk4 : k < 4 := by have := dtrue d1; omega
    obtain ⟨m, hm⟩ : ∃ m, 4 - k = m + 1 := ⟨3 - k, by omega⟩
    have h3 : 3 - m = k := by omega
    rw [hm, lexFrom, h3] at hq
    refine dwE_intro fun w4 hp4 _ => ?_
    have hp34 := hp3.trans hp4
    refine ⟨by omega, by omega, _, cx hp34 hk4, by omega, by omega, _, cy hp34 hk4, Br.of (fun d2 => ?_) (fun d2 => ?_)⟩
    · have d2 : x.g k ≠ y.g k := by simpa using d2
      refine dwE_intro fun w5 hp5 _ => ?_
      have hp35 := hp34.trans hp5
      refine ⟨by omega, by omega, _, cx hp35 hk4, by omega, by omega, _, cy hp35 hk4, ?_⟩
      rw [if_pos d2] at hq
      exact ⟨by rw [hq], (hp1.trans hp2).trans hp35⟩
    · have d2 : x.g k = y.g k := by simpa using d2
      rw [wrap_in (by omega) (by omega)]
      refine hJ _ _ hk4 ⟨rfl, hp34, ?_⟩
      rw [hq, if_neg (fun h => h d2), show 4 - (k + 1) = m by omega]
  · have hk4 : k = 4 := by have := dfalse d1; omega
    subst hk4
    exact ⟨by rw [hq]; rfl, (hp1.trans hp2).trans hp3⟩
end Go.Proofs.YtnigfiljenfgjaaGreat

/- The disk: what a file's size is; forgetting. -/
set_option maxRecDepth 100000
set_option linter.unusedVariables false
set_option linter.unusedSimpArgs false
namespace Go.Proofs.YtnigfiljenfgjaaGreat
open Go.Sh Go.RowKit
def sizeN (name : ByteArray) (σ : Sys) : Nat := if enterC 0 name σ = 0 then (fileOf σ name).length else 0
theorem size_c {w : World} {d : Lay} {σ : Sys} (h : SysAt w d 0 σ) (name : ByteArray) :
    Calls Tryz.prog 90 #[d.ptr, .string name] w fun e w' => e = .returned (.tuple #[.int .i64 (sizeN name σ : Nat), .int .i64 (enterC 0 name σ)]) /\ Left w w' d d σ := by
  refine F90_calls _ name w _ ?_
  refine Calls.mono (enter_c h 0 name) ?_
  rintro e w2 ⟨rfl, h2, hf2⟩
  have hf2' : Fr (· ∈ d.own) w w2 := hf2.mono fun i hi _ => by rw [show i = d.S from hi]; exact mem_S d
  refine ⟨_, _, rfl, Br.of (fun he => ?_) (fun he => ?_)⟩
  · have he : enterC 0 name σ ≠ 0 := by simpa using he
    exact leave_left h2 hf2' fun w' hL _ => ⟨by rw [sizeN, if_neg he]; rfl, hL⟩
  · have he : enterC 0 name σ = 0 := by simpa using he
    obtain ⟨_, _, f, hf⟩ := enterC_zero he
    obtain ⟨s, hl3, hrs, hgs, hmem, hsl⟩ := look_file h2 hf
    refine ⟨some d.M, h2.cellM, s, w2, hl3, ?_⟩
    exact leave_left h2 hf2' fun w' hL _ => ⟨by rw [sizeN, if_pos he, fileOf_eq' hf, hsl, he], hL⟩
 where
  fileOf_eq' {σ : Sys} {name : ByteArray} {f : List UInt8} (hf : AL.get σ.files name = some f) : fileOf σ name = f := by simp [fileOf, hf]
theorem hasTrue_c {w : World} {A : Addr} {m c : Nat} {bs : Nat -> Bool} (hm : m <= 1000) (hb : ∀ i, i < m -> w.cell? (A.add i) = some (.bool (bs i))) :
    Calls Tryz.prog 83 #[.slice (some A) m c, .bool true] w fun e w' => e = .returned (.bool ((List.range m).any bs)) /\ w' = w := by
  refine F83_calls ⟨some A, m, c⟩ true w _ ?_
  refine Calls.mono (R := fun e w' => ∃ n : Int, e = .returned (.int .i64 n) /\ decide (n ≥ 0) = (List.range m).any bs /\ w' = w) ?_ fun e w' ⟨n, h1, h2, h3⟩ => ⟨n, h1, by rw [← h2], h3⟩
  refine F107_calls ⟨some A, m, c⟩ true w _ ?_
  refine loopUp m (fun k t w' => w' = w /\ t = (k : Int) /\ ∀ i, i < k -> bs i = false) ⟨rfl, rfl, fun i hi => by omega⟩ ?_
  rintro k J t w' hk ⟨rfl, rfl, hall⟩ hJ
  refine Br.of (fun d => ?_) (fun d => ?_)
  · have hkm : k < m := by have := dtrue d; show k < m; have e : (⟨some A, m, c⟩ : SV).len = m := rfl; omega
    refine ⟨A, rfl, by omega, dtrue d, bs k, by rw [Int.toNat_natCast, Nat.mul_one]; exact hb k hkm, ?_⟩
    cases hbk : bs k with
    | true =>
      refine ⟨(k : Int), rfl, ?_, rfl⟩
      have : (List.range m).any bs = true := List.any_eq_true.2 ⟨k, List.mem_range.2 hkm, hbk⟩
      rw [this]; simp
    | false =>
      show J _ _
      rw [wrap_in (by omega) (by omega)]
      refine hJ _ _ hkm ⟨rfl, rfl, fun i hi => ?_⟩
      by_cases e : i = k
      · subst e; exact hbk
      · exact hall i (by omega)
  · have hkm : k = m := by have := dfalse d; have e : (⟨some A, m, c⟩ : SV).len = m := rfl; omega
    refine ⟨-1, rfl, ?_, rfl⟩
    have : (List.range m).any bs = false := List.any_eq_false.2 fun i hi => by rw [hall i (by have := List.mem_range.1 hi; omega)]; simp
    rw [this]; decide
def inL (ps : List Place) (p : Place) : Bool := ps.any fun x => decide (x = p)
theorem inL_iff {ps : List Place} {p : Place} : inL ps p = true ↔ p ∈ ps := by
  rw [inL, List.any_eq_true]
  exact ⟨fun ⟨x, hx, e⟩ => by rw [← of_decide_eq_true e]; exact hx, fun h => ⟨p, h, by simp⟩⟩
theorem inL_false {ps : List Place} {p : Place} : inL ps p = false ↔ p ∉ ps := by
  rw [← inL_iff]; simp
def clean (pg : Page) : Bool := !(List.range 32).any pg.di
def fgL (u : Nat) (done : Place -> Bool) (σ : Sys) : List (Place × Page) := (σ.caches u).filter fun q => !(done q.1 && clean q.2)
def forgetS (u : Nat) (name : ByteArray) (σ : Sys) : Sys := σ.setCache u (fgL u (inPages name 0 65536) σ)
def forgetN (u : Nat) (name : ByteArray) (σ : Sys) : Nat := ((σ.caches u).filter fun q => inPages name 0 65536 q.1 && clean q.2).length
theorem del_filter {κ ν : Type} [DecidableEq κ] : ∀ {l : List (κ × ν)} (k : κ), (l.map Prod.fst).Nodup -> AL.del l k = l.filter fun q => !decide (q.1 = k)
  | [], k, _ => rfl
  | (a, b) :: l, k, hn => by
    simp only [List.map_cons, List.nodup_cons] at hn
    simp only [AL.del]
    by_cases e : a = k
    · rw [if_pos e, List.filter_cons_of_neg (by simp [e])]
      symm
      rw [List.filter_eq_self]
      intro q hq
      have : q.1 ≠ k := fun h => hn.1 (by rw [e, ← h]; exact List.mem_map_of_mem hq)
      simp [this]
    · rw [if_neg e, List.filter_cons_of_pos (by simp [e]), del_filter k hn.2]
theorem fgL_ext {u : Nat} {σ : Sys} {f g : Place -> Bool} (h : ∀ q ∈ σ.caches u, clean q.2 = true -> f q.1 = g q.1) : fgL u f σ = fgL u g σ := by
  refine List.filter_congr fun q hq => ?_
  cases hc : clean q.2 with
  | true => rw [h q hq hc]
  | false => simp
theorem fgL_nodup {u : Nat} {σ : Sys} (hn : ((σ.caches u).map Prod.fst).Nodup) (f : Place -> Bool) : ((fgL u f σ).map Prod.fst).Nodup := hn.sublist (List.filter_sublist.map _)
theorem fgL_get {u : Nat} {σ : Sys} (hn : ((σ.caches u).map Prod.fst).Nodup) (f : Place -> Bool) (p : Place) (hp : f p = false) : AL.get (fgL u f σ) p = AL.get (σ.caches u) p := by
  have hn2 : ((fgL u f σ).map Prod.fst).Nodup := hn.sublist (List.filter_sublist.map _)
  cases hg : AL.get (σ.caches u) p with
  | none => exact AL.get_none.2 fun hm => AL.get_none.1 hg ((List.filter_sublist.map _).subset hm)
  | some pg => exact AL.get_of_mem hn2 (List.mem_filter.2 ⟨AL.get_mem hg, by simp [hp]⟩)
set_option maxHeartbeats 1000000 in
theorem forget_c {w : World} {d : Lay} {σ : Sys} (h : SysAt w d 0 σ) (hG : Good σ) (u : Int) (name : ByteArray) :
    Calls Tryz.prog 34 #[d.ptr, .int .i64 u, .string name] w fun e w' =>
      (enterC u name σ ≠ 0 /\ e = .returned (.tuple #[.int .i64 0, .int .i64 (enterC u name σ)]) /\ Left w w' d d σ) ∨ (enterC u name σ = 0 /\ e = .returned (.tuple #[.int .i64 (forgetN u.toNat name σ : Nat), .int .i64 0]) /\ Left w w' d d (forgetS u.toNat name σ)) := by
  refine F34_calls _ _ _ w _ ?_
  refine Calls.mono (enter_c h u name) ?_
  rintro e w2 ⟨rfl, h2, hf2⟩
  have hf2' : Fr (· ∈ d.own) w w2 := hf2.mono fun i hi _ => by rw [show i = d.S from hi]; exact mem_S d
  refine ⟨_, _, rfl, Br.of (fun he => ?_) (fun he => ?_)⟩
  · have he : enterC u name σ ≠ 0 := by simpa using he
    exact leave_left h2 hf2' fun w' hL _ => .inl ⟨he, rfl, hL⟩
  · have he : enterC u name σ = 0 := by simpa using he
    obtain ⟨hu0, hu4, f, hf⟩ := enterC_zero he
    obtain ⟨un, rfl⟩ := Int.eq_ofNat_of_zero_le hu0
    have hun : un < 4 := by omega
    have hnd := (h.ca un hun).nodup
    refine Calls.mono (pages_c h2 hG.near hun name (by omega) (by omega) (hG.cnt un hun)) ?_
    rintro e w3 ⟨l, ps, rfl, hrow, hperm, hp3, hblk⟩
    refine ⟨l, rfl, ?_⟩
    have hfl := flat_len ps
    have hl : l.len = ps.length := by have := hrow.1; omega
    rw [hl]
    have hpn : ps.Nodup := hperm.nodup_iff.2 (hnd.sublist List.filter_sublist)
    have hps : ∀ p ∈ ps, p ∈ (σ.caches un).map Prod.fst /\ p.1 = name := fun p hp => by
      have := hperm.mem_iff.1 hp
      obtain ⟨h1, h2⟩ := List.mem_filter.1 this
      exact ⟨h1, (of_decide_eq_true h2).1⟩
    have hcnt : ps.length <= 1000000 := by
      have h1 := hperm.length_eq
      have h2 := List.length_filter_le (inPages name 0 65536) ((σ.caches un).map Prod.fst)
      have h3 := hG.cnt un hun
      simp at h2; omega
    -- how many
    have hN : ((ps.filter fun p => clean (pageOf σ un p)).length) = forgetN un name σ := by
      rw [(hperm.filter _).length_eq, forgetN, List.filter_filter, List.filter_map, List.length_map]
      congr 1
      refine List.filter_congr fun q hq => ?_
      have : pageOf σ un q.1 = q.2 := by simp [pageOf, AL.get_of_mem hnd hq]
      simp only [Function.comp_apply, this, Bool.and_comm]
    refine loopUp ps.length (fun k t w' => t = (((((ps.take k).filter fun p => clean (pageOf σ un p)).length : Nat) : Int), (k : Int)) /\ SysAt w' d 1 (σ.setCache un (fgL un (inL (ps.take k)) σ)) /\ RowAt w' 92 2 l (ps.flatMap placeCells) /\ Fr (· ∈ d.own) w w')
      ⟨rfl, ?_, hrow, hf2'.trans (Fr.pu hp3 : Fr (· ∈ d.own) w2 w3) fun i hi _ => hi⟩ ?_
    · have e : fgL un (inL (ps.take 0)) σ = σ.caches un := by
        rw [fgL, List.filter_eq_self]; intro q hq; simp [inL]
      rw [e, setCache_self]; exact h2.pu hp3
    rintro k J t w' hk ⟨rfl, hS, hrw, hfr⟩ hJ
    refine Br.of (fun hlt => ?_) (fun hge => ?_)
    · have hlt' : k < ps.length := by have := dtrue hlt; omega
      obtain ⟨p, hp⟩ : ∃ p, ps[k]? = some p := ⟨_, List.getElem?_eq_getElem hlt'⟩
      obtain ⟨g1, g2⟩ := flat_get ps hp
      obtain ⟨g, hga, hgc, hgb⟩ := hrw.base (fun e => by rw [e] at g1; simp at g1)
      have hpk := hps p (List.mem_of_getElem? hp)
      obtain ⟨nm, q⟩ := p
      obtain ⟨pg, hg⟩ := AL.get_isSome hpk.1
      refine ⟨⟨g, 0, none⟩, hga, by omega, by omega, nm, ?_, q, ?_, ?_⟩
      · rw [add_def, add_def]; rw [← hgc (k * 2) _ g1]; congr 2; omega
      · rw [add_def, add_def]; rw [← hgc (k * 2 + 1) _ g2]; congr 2; omega
      refine alE_intro fun w4 hw4 => ?_
      have hp4 : Pu w' w4 := by rw [hw4]; exact Pu.alloc w' _
      have hb4 : w4.heap[w'.heap.size]? = some (.cells #[.string ⟨#[]⟩, .int .i64 0] 92) := by rw [hw4]; exact alloc_new w' _
      refine stA_fill hb4 (by rw [size66]; rfl) rfl rfl fun w5 hb5 hf5 hs5 => ?_
      have hP5 : Pu w' w5 := hp4.andNew hf5 fun i hi => by omega
      refine dwE_intro fun w6 hp6 hh6 => ?_
      have hP6 := hP5.trans hp6
      have hS6 := hS.pu hP6
      have hb6 := hp6.blk hb5
      have htk : ps.take (k + 1) = ps.take k ++ [(nm, q)] := by rw [List.take_add_one, hp]; rfl
      have hnot : (nm, q) ∉ ps.take k := fun hm => by
        obtain ⟨j, hj, e⟩ := List.getElem_of_mem hm
        rw [List.length_take] at hj
        rw [List.getElem_take] at e
        have h1 : ps[j]? = some (nm, q) := by rw [List.getElem?_eq_getElem (by omega), e]
        have := (List.getElem?_inj (by omega) hpn).1 (h1.trans hp.symm)
        omega
      have hgk : AL.get (fgL un (inL (ps.take k)) σ) (nm, q) = some pg := by rw [fgL_get hnd _ _ (inL_false.2 hnot)]; exact hg
      have hpo : pageOf σ un (nm, q) = pg := by simp [pageOf, hg]
      have hpo6 : pageOf (σ.setCache un (fgL un (inL (ps.take k)) σ)) un (nm, q) = pg := by simp [pageOf, setCache_at, hgk]
      -- what is known of the world stays
      obtain ⟨S1, hS1⟩ : ∃ S1 : World -> Prop, S1 = fun wx => SysAt wx d 1 (σ.setCache un (fgL un (inL (ps.take k)) σ)) /\ wx.heap[w'.heap.size]? = some (.cells #[.string nm, .int .i64 q] 92) := ⟨_, rfl⟩
      refine ⟨S1, by rw [hS1]; exact ⟨hS6, hb6⟩, by omega, by omega, some (d.c un), fun wx hx => by rw [hS1] at hx; exact hx.1.cellC hun, nm, fun wx hx => by rw [hS1] at hx; rw [add_def, cell_blk hx.2]; rfl, q, fun wx hx => by rw [hS1] at hx; rw [add_def, cell_blk hx.2]; rfl, pg.cells, Page.size_cells _, fun wx hx => by
        rw [hS1] at hx
        have := look_page hx.1 hun (nm, q)
        rw [hpo6] at this
        exact this, ?_⟩
      refine alE_intro fun w7 hw7 => ?_
      have hp7 : Pu w6 w7 := by rw [hw7]; exact Pu.alloc w6 _
      have hb7 : w7.heap[w6.heap.size]? = some (.cells (zc Tryz.prog 89) 89) := by rw [hw7]; exact alloc_new w6 _
      refine ⟨by rw [hS1]; exact ⟨hS6.pu hp7, hp7.blk hb6⟩, ?_⟩
      have h56 := blk_lt hb6
      refine stA_fill hb7 (by rw [Page.size_cells, size61]) (by rw [zero61, Page.size_cells, Page.size_cells]) (Page.one _) fun w8 hb8 hf8 hs8 => ?_
      have hP8 : Pu w6 w8 := hp7.andNew hf8 fun i hi => by omega
      have hS8 := hS6.pu hP8
      have hb68 := hP8.blk hb6
      refine ⟨by omega, by omega, ?_⟩
      refine Calls.mono (hasTrue_c (bs := pg.di) (by omega) fun i hi => by rw [if_neg (by omega), add_def, add_def, add_def, cell_blk hb8, show 0 + 64 + 0 * 1 + i = 64 + i by omega]; exact pg.get_di hi) ?_
      rintro e w9 ⟨rfl, rfl⟩
      refine ⟨_, rfl, ?_⟩
      have hfr8 : Fr (· ∈ d.own) w w9 := (hfr.trans (Fr.pu hP6 : Fr (· ∈ d.own) w' w6) fun i hi _ => hi).trans (Fr.pu hP8 : Fr (· ∈ d.own) w6 w9) fun i hi _ => hi
      have hrw8 := (hrw.pu hP6).pu hP8
      have hlc : (inL (ps.take (k + 1))) = fun p => (inL (ps.take k) p || decide ((nm, q) = p) : Bool) := by
        funext p; rw [htk, inL, inL, List.any_append]; simp
      have htl : ((ps.take k).filter fun p => clean (pageOf σ un p)).length <= 1000000 := by
        have := List.length_filter_le (fun p => clean (pageOf σ un p)) (ps.take k)
        rw [List.length_take] at this; omega
      refine Br.of (fun hc => ?_) (fun hc => ?_)
      · have hcl : clean pg = true := hc
        refine dwE_intro fun w10 hp10 hh10 => ?_
        have hS10 := hS8.pu hp10
        have hb610 := hp10.blk hb68
        obtain ⟨w11, hdl, hm11, hf11, hs11⟩ := (hS10.ca un hun).del (tys := #[63, 92]) (r0 := 0) keysP rfl u48 (nm, q)
        have hS11 := hS10.setCache hun hm11 hf11
        rw [setCache_twice, setCache_at] at hS11
        refine ⟨by omega, by omega, some (d.c un), hS10.cellC hun, nm, by rw [add_def, cell_blk hb610]; rfl, q, by rw [add_def, cell_blk hb610]; rfl, w11, hdl, ?_⟩
        rw [wrap_in (by omega) (by omega), wrap_in (by omega) (by omega)]
        refine hJ _ _ hlt' ⟨?_, ?_, ?_, ?_⟩
        · rw [htk, List.filter_append, List.length_append]
          simp [hpo, hcl]
        · have e : AL.del (fgL un (inL (ps.take k)) σ) (nm, q) = fgL un (inL (ps.take (k + 1))) σ := by
            rw [hlc, del_filter _ (fgL_nodup hnd _), fgL, List.filter_filter, fgL]
            refine List.filter_congr fun x hx => ?_
            by_cases e : x.1 = (nm, q)
            · have hxp : x.2 = pg := by
                have := AL.get_of_mem hnd hx
                rw [e, hg] at this; exact (Option.some.inj this).symm
              simp [e, hxp, hcl]
            · simp [e, Ne.symm e]
          rw [e] at hS11; exact hS11
        · exact (hrw8.pu hp10).fr hf11 fun b hb hbo => by have := hblk b hb; have h2lt := h2.lt (d.c un) (d.mem_c hun); have hbo : b = d.c un := hbo; omega
        · exact (hfr8.trans (Fr.pu hp10 : Fr (· ∈ d.own) w9 w10) fun i hi _ => hi).trans hf11 fun i hi _ => by rw [show i = d.c un from hi]; exact d.mem_c hun
      · have hcl : clean pg = false := hc
        rw [wrap_in (by omega) (by omega)]
        refine hJ _ _ hlt' ⟨?_, ?_, hrw8, hfr8⟩
        · rw [htk, List.filter_append, List.length_append]
          simp [hpo, hcl]
        · have e : fgL un (inL (ps.take k)) σ = fgL un (inL (ps.take (k + 1))) σ := by
            rw [hlc]
            refine fgL_ext fun x hx hxc => ?_
            have : x.1 ≠ (nm, q) := fun e => by
              have h1 := AL.get_of_mem hnd hx
              rw [e, hg] at h1
              rw [← Option.some.inj h1, hcl] at hxc; cases hxc
            simp [Ne.symm this]
          rw [← e]; exact hS8
    · have hk : k = ps.length := by have := dfalse hge; omega
      subst hk
      rw [List.take_length] at hS ⊢
      have e : fgL un (inL ps) σ = fgL un (inPages name 0 65536) σ := fgL_ext fun q hq _ => by
        have h1 : q.1 ∈ ps ↔ inPages name 0 65536 q.1 = true := by
          rw [hperm.mem_iff, List.mem_filter]
          exact ⟨fun h => h.2, fun h => ⟨List.mem_map_of_mem hq, h⟩⟩
        by_cases h2 : inPages name 0 65536 q.1 = true
        · rw [h2]; exact inL_iff.2 (h1.2 h2)
        · rw [Bool.eq_false_iff.2 h2]; exact inL_false.2 fun h => h2 (h1.1 h)
      rw [e] at hS
      exact leave_left hS hfr fun w' hL _ => .inr ⟨he, by rw [hN, Int.toNat_natCast], hL⟩
end Go.Proofs.YtnigfiljenfgjaaGreat

/- The disk: files dropped. -/
set_option maxRecDepth 100000
set_option linter.unusedVariables false
set_option linter.unusedSimpArgs false
namespace Go.Proofs.YtnigfiljenfgjaaGreat
open Go.Sh Go.RowKit
theorem tells_name {r3 : Nat} {name : ByteArray} : Tells (.func (.func 109) #[] #[.pointer (some ⟨r3, 0, none⟩)]) (fun w => w.heap[r3]? = some (.cells #[.string name] 9)) (fun l => decide (l.name = name)) where
  stays := fun h hp => hp.blk h
  ex := by
    refine ⟨109, #[], _, rfl, by kernel_rfl, ?_⟩
    rintro w l h3 hl
    refine F109_calls _ _ _ _ _ w _ ?_
    refine alE_intro fun w1 hw1 => ?_
    have hp1 : Pu w w1 := by rw [hw1]; exact Pu.alloc w _
    have hb1 : w1.heap[w.heap.size]? = some (.cells #[.int .i64 l.u, .string l.name, .int .i64 l.at_, .int .i64 l.n] 95) := by rw [hw1]; exact alloc_new w _
    refine ⟨l.name, by rw [add_def, cell_blk hb1]; rfl, name, by rw [cell_blk (hp1.blk h3)]; rfl, ?_⟩
    rw [toList_beq]
    exact ⟨rfl, hp1⟩
theorem ofFile_c {w : World} {r3 : Nat} {name nm : ByteArray} {q : Int} {c : Array Value} (h3 : w.heap[r3]? = some (.cells #[.string name] 9)) :
    Calls Tryz.prog 111 #[.agg #[.string nm, .int .i64 q], .agg c, .pointer (some ⟨r3, 0, none⟩)] w fun e w' => e = .returned (.bool (decide (nm = name))) /\ Pu w w' := by
  refine F111_calls _ _ _ _ w _ ?_
  refine alE_intro fun w1 hw1 => alE_intro fun w2 hw2 => ?_
  have hp1 : Pu w w1 := by rw [hw1]; exact Pu.alloc w _
  have hp2 : Pu w1 w2 := by rw [hw2]; exact Pu.alloc w1 _
  have hb1 : w1.heap[w.heap.size]? = some (.cells #[.string nm, .int .i64 q] 92) := by rw [hw1]; exact alloc_new w _
  refine ⟨nm, by rw [cell_blk (hp2.blk hb1)]; rfl, name, by rw [cell_blk (hp2.blk (hp1.blk h3))]; rfl, ?_⟩
  rw [toList_beq]
  exact ⟨rfl, hp1.trans hp2⟩
def notOf (name : ByteArray) (q : Place × Page) : Bool := !decide (q.1.1 = name)
set_option maxHeartbeats 1000000 in
theorem delFunc_c {w : World} {d : Lay} {mu : Int} {σ : Sys} (h : SysAt w d mu σ) {u : Nat} (hu : u < 4) {name : ByteArray} {r3 : Nat} (h3 : w.heap[r3]? = some (.cells #[.string name] 9)) (hr3 : r3 ≠ d.c u) :
    Calls Tryz.prog 110 #[.map (some (d.c u)), .func (.func 111) #[] #[.pointer (some ⟨r3, 0, none⟩)]] w fun e w' => e = .returned (.tuple #[]) /\ SysAt w' d mu (σ.setCache u ((σ.caches u).filter (notOf name))) /\ Fr (· = d.c u) w w' := by
  refine F110_calls _ _ w _ ?_
  obtain ⟨w1, hr1, hi1, hp1, hs1⟩ := (h.ca u hu).range (t := 63) u48
  have hnd := (h.ca u hu).nodup
  have hclt := h.lt _ (d.mem_c hu)
  refine ⟨_, w1, hr1, ?_⟩
  refine loopDown (σ.caches u).length (fun m s w' => ∃ (todo cur : List (Place × Page)), todo.length = m /\ cur = (σ.caches u).filter (fun q : Place × Page => (AL.get todo q.1).isSome || notOf name q) /\
    IterAt w' ekP evP w.heap.size (d.c u) cur todo /\ (∀ q ∈ todo, q ∈ σ.caches u) /\ SysAt w' d mu (σ.setCache u cur) /\ Fr (· = d.c u) w w' /\ w.heap.size < w'.heap.size)
    ⟨σ.caches u, σ.caches u, rfl, ?_, hi1, fun q hq => hq, by rw [setCache_self]; exact h.pu hp1, Fr.pu hp1, by omega⟩ ?_
  · symm
    rw [List.filter_eq_self]
    intro q hq
    obtain ⟨v, hv⟩ := AL.get_isSome (List.mem_map.2 ⟨q, hq, rfl⟩)
    rw [hv]; rfl
  rintro m J s w' ⟨todo, cur, hm, hcur, hit, htodo, hS, hfr, hlt⟩ hJ
  rcases hit.next (P := Tryz.prog) 0 with ⟨hnil, hr⟩ | ⟨p, hpm, w2, hr, hf2, hs2, hit2, hen⟩
  · refine .inl ⟨w', hr, rfl, ?_, hfr⟩
    subst hnil
    have : cur = (σ.caches u).filter (notOf name) := by rw [hcur]; exact List.filter_congr fun q _ => by simp [AL.get]
    rw [this] at hS; exact hS
  · refine .inr ⟨_, _, w2, hr, _, _, w2, hen, ?_⟩
    obtain ⟨⟨nm, q⟩, pg⟩ := p
    have hpl := htodo _ hpm
    have hlen2 : (AL.del todo (nm, q)).length + 1 = todo.length := AL.length_del hpm hit.nodup
    have hnt : (nm, q) ∉ (AL.del todo (nm, q)).map Prod.fst := AL.not_mem_del hit.nodup _
    have hin : (nm, q) ∈ todo.map Prod.fst := List.mem_map.2 ⟨_, hpm, rfl⟩
    have htodo' : ∀ x ∈ AL.del todo (nm, q), x ∈ σ.caches u := fun x hx => htodo x ((AL.perm_del hpm hit.nodup).mem_iff.2 (List.mem_cons_of_mem _ hx))
    have hS2 : SysAt w2 d mu (σ.setCache u cur) := hS.fr hf2 fun b hb e => by have := h.lt b hb; omega
    have hfr2 : Fr (· = d.c u) w w2 := hfr.trans hf2 fun i hi hlt => by omega
    show dAgg (.agg #[.string nm, .int .i64 q]) _
    simp only [dAgg_mk, dHd_mk, dStr_mk, dInt_mk, dNil_mk]
    show dRow (.agg pg.cells) _
    rw [dRow_mk]
    refine alE_intro fun w3 hw3 => alE_intro fun w4 hw4 => ?_
    have hp3 : Pu w2 w3 := by rw [hw3]; exact Pu.alloc w2 _
    have hp4 : Pu w3 w4 := by rw [hw4]; exact Pu.alloc w3 _
    have hb3 : w3.heap[w2.heap.size]? = some (.cells #[.string ⟨#[]⟩, .int .i64 0] 92) := by rw [hw3]; exact alloc_new w2 _
    have hb4 : w4.heap[w3.heap.size]? = some (.cells (zc Tryz.prog 89) 89) := by rw [hw4]; exact alloc_new w3 _
    have hs3 : w3.heap.size = w2.heap.size + 1 := by rw [hw3]; exact Array.size_push ..
    have hs4 : w4.heap.size = w3.heap.size + 1 := by rw [hw4]; exact Array.size_push ..
    refine stA_fill (hp4.blk hb3) (by rw [size66]; rfl) rfl rfl fun w5 hb5 hf5 hs5 => ?_
    refine stA_fill (hf5.blk hb4 (by omega)) (by rw [Page.size_cells, size61]) (by rw [zero61, Page.size_cells, Page.size_cells]) (Page.one _) fun w6 hb6 hf6 hs6 => ?_
    have hP6 : Pu w2 w6 := ((hp3.trans hp4).andNew hf5 fun i hi => by omega).andNew hf6 fun i hi => by omega
    have hb56 : w6.heap[w2.heap.size]? = some (.cells #[.string nm, .int .i64 q] 92) := hf6.blk hb5 (by omega)
    have hfr6 : Fr (· = d.c u) w w6 := hfr2.trans (Fr.pu hP6 : Fr (· = d.c u) w2 w6) fun i hi _ => hi
    refine ⟨nm, by rw [add_def, cell_blk hb56]; rfl, q, by rw [add_def, cell_blk hb56]; rfl, pg.cells, Page.size_cells _, fun i hi => by rw [add_def, cell_blk hb6, Nat.zero_add], by kernel_rfl, ?_⟩
    refine Calls.mono (ofFile_c (c := pg.cells) (q := q) (nm := nm) (name := name) (r3 := r3) (w := w6) (hfr6.blk h3 hr3)) ?_
    rintro e w7 ⟨rfl, hp7⟩
    have hP7 := hP6.trans hp7
    have hit7 : IterAt w7 ekP evP w.heap.size (d.c u) cur (AL.del todo (nm, q)) := hit2.fr (Fr.pu hP7 : Fr (fun _ => False) w2 w7) (fun h => h) (fun h => h)
    have hS7 := hS2.pu hP7
    have hfr7 : Fr (· = d.c u) w w7 := hfr2.trans (Fr.pu hP7 : Fr (· = d.c u) w2 w7) fun i hi _ => hi
    have hb57 := hp7.blk hb56
    have hz7 := hP7.size
    refine ⟨_, rfl, Br.of (fun c1 => ?_) (fun c1 => ?_)⟩
    · have c1 : nm = name := dtrue c1
      obtain ⟨w8, hr8, hit8, hf8, hs8⟩ := hit7.drop (r0 := 0) (tys := #[63, 92]) keysP rfl u48 hnt
      have hS8 := hS7.setCache hu hit8.map hf8
      rw [setCache_twice] at hS8
      refine ⟨nm, by rw [add_def, cell_blk hb57]; rfl, q, by rw [add_def, cell_blk hb57]; rfl, w8, hr8, ?_⟩
      refine hJ (m - 1) _ _ (by omega) ⟨AL.del todo (nm, q), _, by omega, ?_, hit8, htodo', hS8, hfr7.trans hf8 fun i hi _ => hi, by omega⟩
      rw [hcur, del_filter _ (hnd.sublist (List.filter_sublist.map _)), List.filter_filter]
      refine List.filter_congr fun x hx => ?_
      by_cases e : x.1 = (nm, q)
      · have hz : AL.get (AL.del todo (nm, q)) x.1 = none := by rw [e]; exact AL.get_none.2 hnt
        have : notOf name x = false := by rw [notOf, e, c1]; simp
        rw [hz, this]; simp [e]
      · rw [AL.get_del hit.nodup, if_neg (Ne.symm e)]; simp [e]
    · have c1 : nm ≠ name := dfalse c1
      refine hJ (m - 1) _ _ (by omega) ⟨AL.del todo (nm, q), cur, by omega, ?_, hit7, htodo', hS7, hfr7, by omega⟩
      rw [hcur]
      refine List.filter_congr fun x hx => ?_
      by_cases e : x.1 = (nm, q)
      · have : notOf name x = true := by rw [notOf, e]; simp [c1]
        simp [this]
      · rw [AL.get_del hit.nodup, if_neg (Ne.symm e)]
theorem FilesAt.del {w : World} (k : ByteArray) : ∀ {fs : List (ByteArray × SV)} {bs : List (ByteArray × List UInt8)}, FilesAt w fs bs -> FilesAt w (AL.del fs k) (AL.del bs k)
  | [], [], _ => trivial
  | (a, s) :: fs, (a', b) :: bs, ⟨h1, h2, h3⟩ => by
    have h1 : a = a' := h1
    subst h1
    simp only [AL.del]
    by_cases e : a = k
    · rw [if_pos e, if_pos e]; exact h3
    · rw [if_neg e, if_neg e]; exact ⟨rfl, h2, FilesAt.del k h3⟩
theorem flatMap_sub {α β : Type} {f : α -> List β} {l l' : List α} (h : l.Sublist l') : (l.flatMap f).Sublist (l'.flatMap f) := by
  induction h with
  | slnil => exact List.Sublist.refl _
  | cons a _ ih => rw [List.flatMap_cons]; exact ih.trans (List.sublist_append_right _ _)
  | cons_cons a _ ih => rw [List.flatMap_cons, List.flatMap_cons]; exact (List.Sublist.refl _).append ih
theorem Lay.own_del (d : Lay) (k : ByteArray) : ({ d with fs := AL.del d.fs k } : Lay).own.Sublist d.own := by
  unfold Lay.own
  have h := flatMap_sub (f := fun p : ByteArray × SV => blkOf p.2) (del_sub d.fs k)
  exact ((((((List.Sublist.refl _).append h).cons_cons _).cons_cons _).cons_cons _).cons_cons _).cons_cons _ |>.cons_cons _
theorem SysAt.delFile {w w' : World} {d : Lay} {mu : Int} {σ : Sys} (h : SysAt w d mu σ) {name : ByteArray} (hm : MapAt w' ekS evS d.M (AL.del d.fs name)) (hf : Fr (· = d.M) w w') : SysAt w' { d with fs := AL.del d.fs name } mu { σ with files := AL.del σ.files name } := by
  obtain ⟨n1, n2, n3, n4, n5⟩ := h.ne
  refine ⟨hf.blk h.st n1, hm, ?_, fun u hu => (h.ca u hu).fr hf fun e => (n2 u hu).2 e.symm, h.lk.fr hf ?_, h.nd.sublist (Lay.own_del d name)⟩
  · refine FilesAt.fr hf (h.fl.del name) fun p hp b hb e => ?_
    have := n5 p ((del_sub _ _).subset hp) b hb
    grind
  · intro b hb e
    have := n4 b hb
    grind
def dropC (name : ByteArray) (σ : Sys) : Int := if enterC 0 name σ = 0 then (if σ.locks.any (fun l => decide (l.name = name)) then 12 else 0) else enterC 0 name σ
def dropK (name : ByteArray) (k : Nat) (σ : Sys) : Sys := { σ with files := AL.del σ.files name, caches := fun v => if v < k then (σ.caches v).filter (notOf name) else σ.caches v }
def dropS (name : ByteArray) (σ : Sys) : Sys := if dropC name σ = 0 then dropK name 4 σ else σ
set_option maxHeartbeats 1000000 in
theorem drop_c {w : World} {d : Lay} {σ : Sys} (h : SysAt w d 0 σ) (hL : LocksOk σ) (name : ByteArray) :
    Calls Tryz.prog 87 #[d.ptr, .string name] w fun e w' => e = .returned (.int .i64 (dropC name σ)) /\ ∃ d', Left w w' d d' (dropS name σ) := by
  refine F87_calls _ name w _ ?_
  refine alE_intro fun w1 hw1 => ?_
  have hp1 : Pu w w1 := by rw [hw1]; exact Pu.alloc w _
  have hb1 : w1.heap[w.heap.size]? = some (.cells #[.string name] 9) := by rw [hw1]; exact alloc_new w _
  refine ⟨name, by rw [cell_blk hb1]; rfl, ?_⟩
  have h1 := h.pu hp1
  refine Calls.mono (enter_c h1 0 name) ?_
  rintro e w2 ⟨rfl, h2, hf2⟩
  have hSlt := h.lt _ (mem_S d)
  have hf2' : Fr (· ∈ d.own) w w2 := (Fr.pu hp1 : Fr (· ∈ d.own) w w1).trans hf2 fun i hi _ => by rw [show i = d.S from hi]; exact mem_S d
  have hb2 := hf2.blk hb1 (by show ¬ _ = _; omega)
  refine ⟨_, _, rfl, Br.of (fun he => ?_) (fun he => ?_)⟩
  · have he : enterC 0 name σ ≠ 0 := by simpa using he
    have hC : dropC name σ = enterC 0 name σ := by rw [dropC, if_neg he]
    exact leave_left h2 hf2' fun w' hL' _ => ⟨by rw [hC], d, by rw [dropS, hC, if_neg he]; exact hL'⟩
  have he : enterC 0 name σ = 0 := by simpa using he
  refine ⟨d.ls, h2.cellL, ?_⟩
  refine Calls.mono (contains_c h2.lk hL.1 hL.2 tells_name hb2) ?_
  rintro e w3 ⟨rfl, hp3⟩
  have h3 := h2.pu hp3
  have hb3 := hp3.blk hb2
  have hf3 : Fr (· ∈ d.own) w w3 := hf2'.trans (Fr.pu hp3 : Fr (· ∈ d.own) w2 w3) fun i hi _ => hi
  refine ⟨_, rfl, Br.of (fun hc => ?_) (fun hc => ?_)⟩
  · have hC : dropC name σ = 12 := by rw [dropC, if_pos he, if_pos hc]
    exact leave_left h3 hf3 fun w' hL' _ => ⟨by rw [hC], d, by rw [dropS, hC]; exact hL'⟩
  have hC : dropC name σ = 0 := by rw [dropC, if_pos he, if_neg (by rw [hc]; decide)]
  have hS : dropS name σ = dropK name 4 σ := by rw [dropS, if_pos hC]
  rw [hC, hS]
  refine dwE_intro fun w4 hp4 hh4 => ?_
  have h4 := h3.pu hp4
  have hb4 := hp4.blk hb3
  obtain ⟨w5, hdl, hm5, hf5, hs5⟩ := h4.mp.del (tys := #[55, 9]) (r0 := 0) keysS rfl u40 name
  refine ⟨some d.M, h4.cellM, name, by rw [cell_blk hb4]; rfl, w5, hdl, ?_⟩
  have hMlt := h.lt _ (mem_M d)
  have hb5 := hf5.blk hb4 (by show ¬ _ = _; omega)
  have h5 := h4.delFile hm5 hf5
  have hf5' : Fr (· ∈ d.own) w w5 := (hf3.trans (Fr.pu hp4 : Fr (· ∈ d.own) w3 w4) fun i hi _ => hi).trans hf5 fun i hi _ => by rw [show i = d.M from hi]; exact mem_M d
  have hown := Lay.own_del d name
  have hclt : ∀ v, v < 4 -> d.c v < w.heap.size := fun v hv => h.lt _ (d.mem_c hv)
  refine loopUp 4 (fun k t w' => t = (k : Int) /\ SysAt w' { d with fs := AL.del d.fs name } 1 (dropK name k σ) /\ w'.heap[w.heap.size]? = some (.cells #[.string name] 9) /\ Fr (· ∈ d.own) w w') ⟨rfl, by
    have e : dropK name 0 σ = { σ with files := AL.del σ.files name } := by simp [dropK]
    rw [e]; exact h5, hb5, hf5'⟩ ?_
  rintro k J t w6 hk ⟨rfl, h6, hb6, hf6⟩ hJ
  refine Br.of (fun hlt => ?_) (fun hge => ?_)
  · have hk4 : k < 4 := by have := dtrue hlt; omega
    have hc4 := hclt k hk4
    refine ⟨by omega, by omega, some (d.c k), h6.cellC hk4, ?_⟩
    refine Calls.mono (delFunc_c h6 hk4 hb6 (by show _ ≠ d.c k; omega)) ?_
    rintro e w7 ⟨rfl, h7, hf7⟩
    refine ⟨rfl, ?_⟩
    rw [wrap_in (by omega) (by omega)]
    refine hJ _ _ hk4 ⟨rfl, ?_, hf7.blk hb6 (by show ¬ _ = d.c k; omega), hf6.trans hf7 fun i hi _ => by rw [show i = d.c k from hi]; exact d.mem_c hk4⟩
    have e : (dropK name k σ).setCache k (((dropK name k σ).caches k).filter (notOf name)) = dropK name (k + 1) σ := by
      simp only [dropK, Sys.setCache, Sys.mk.injEq, true_and, and_true]
      funext v
      by_cases e1 : v = k
      · subst e1; simp
      · rw [if_neg e1]
        by_cases e2 : v < k
        · rw [if_pos e2, if_pos (by omega)]
        · rw [if_neg e2, if_neg (by omega)]
    rw [← e]; exact h7
  · have hk4 : k = 4 := by have := dfalse hge; omega
    subst hk4
    show runD Tryz.prog [leaveD { d with fs := AL.del d.fs name }] w6 _
    exact leave_c h6 fun w9 h9 hf9 _ => ⟨rfl, { d with fs := AL.del d.fs name }, ⟨h9, hf6.trans hf9 fun i hi _ => by rw [show i = d.S from hi]; exact mem_S d, fun b hb => .inl (hown.subset hb), rfl⟩⟩
end Go.Proofs.YtnigfiljenfgjaaGreat

/- The disk: a station falls. -/
set_option maxRecDepth 100000
set_option linter.unusedVariables false
set_option linter.unusedSimpArgs false
namespace Go.Proofs.YtnigfiljenfgjaaGreat
open Go.Sh Go.RowKit
theorem tells_of {r3 : Nat} {u : Int} : Tells (.func (.func 49) #[] #[.pointer (some ⟨r3, 0, none⟩)]) (fun w => w.heap[r3]? = some (.cells #[.int .i64 u] 3)) (fun l => decide (l.u = u)) where
  stays := fun h hp => hp.blk h
  ex := by
    refine ⟨49, #[], _, rfl, by kernel_rfl, ?_⟩
    rintro w l h3 hl
    refine F49_calls _ _ _ _ _ w _ ?_
    refine alE_intro fun w1 hw1 => ?_
    have hp1 : Pu w w1 := by rw [hw1]; exact Pu.alloc w _
    have hb1 : w1.heap[w.heap.size]? = some (.cells #[.int .i64 l.u, .string l.name, .int .i64 l.at_, .int .i64 l.n] 95) := by rw [hw1]; exact alloc_new w _
    refine ⟨l.u, by rw [cell_blk hb1]; rfl, u, by rw [cell_blk (hp1.blk h3)]; rfl, ?_⟩
    exact ⟨rfl, hp1⟩
theorem indexFunc_c {w : World} {s : SV} {ls : List Lock} (hr : RowAt w 95 4 s (ls.flatMap Lock.cells)) (hok : ∀ l ∈ ls, l.ok) (hlen : ls.length <= 1000000) {v : Value} {D : World -> Prop} {pred : Lock -> Bool} (cl : Tells v D pred) (hD : D w) :
    Calls Tryz.prog 98 #[.slice s.a s.len s.cap, v] w fun e w' => ∃ n : Int, e = .returned (.int .i64 n) /\ ((n = -1 /\ ∀ l ∈ ls, pred l = false) ∨ ∃ k l, n = ((k : Nat) : Int) /\ ls[k]? = some l /\ pred l = true /\ ∀ j l', j < k -> ls[j]? = some l' -> pred l' = false) /\ Pu w w' := by
  have hsl : s.len = ls.length := by have := hr.1; rw [locks_len] at this; omega
  refine F98_calls s v w _ ?_
  obtain ⟨fn, first, cap, rfl, hbd, hcl⟩ := cl.ex
  refine loopUp ls.length (fun k t w' => t = (k : Int) /\ Pu w w' /\ ∀ j l, j < k -> ls[j]? = some l -> pred l = false) ⟨rfl, Pu.refl w, fun j l hj => by omega⟩ ?_
  rintro k J t w' hk ⟨rfl, hp, hall⟩ hJ
  rw [hsl]
  refine Br.of (fun hlt => ?_) (fun hge => ?_)
  · have hlt' : k < ls.length := by have := dtrue hlt; omega
    obtain ⟨l, hl⟩ : ∃ l, ls[k]? = some l := ⟨_, List.getElem?_eq_getElem hlt'⟩
    have hlm := List.mem_of_getElem? hl
    obtain ⟨g, hga, hgc, hgb⟩ := (hr.pu hp).base (fun e => by have := locks_len ls; rw [e] at this; simp at this; omega)
    have g0 := hgc _ _ (lock_get ls hl 0 _ rfl)
    have g1 := hgc _ _ (lock_get ls hl 1 _ rfl)
    have g2 := hgc _ _ (lock_get ls hl 2 _ rfl)
    have g3 := hgc _ _ (lock_get ls hl 3 _ rfl)
    refine ⟨⟨g, 0, none⟩, hga, by omega, by omega, l.u, ?_, l.name, ?_, l.at_, ?_, l.n, ?_, hbd, ?_⟩
    · rw [add_def, add_def, ← g0]; congr 2; omega
    · rw [add_def, add_def, ← g1]; congr 2; omega
    · rw [add_def, add_def, ← g2]; congr 2; omega
    · rw [add_def, add_def, ← g3]; congr 2; omega
    refine Calls.mono (hcl w' l (cl.stays hD hp) (hok l hlm)) ?_
    rintro e w2 ⟨rfl, hp2⟩
    refine ⟨_, rfl, Br.of (fun hb => ?_) (fun hb => ?_)⟩
    · exact ⟨_, rfl, .inr ⟨k, l, rfl, hl, hb, hall⟩, hp.trans hp2⟩
    · rw [wrap_in (by omega) (by omega)]
      refine hJ _ _ hlt' ⟨by omega, hp.trans hp2, fun j l' hj hl' => ?_⟩
      by_cases e : j = k
      · subst e; rw [hl] at hl'; cases hl'; exact hb
      · exact hall j l' (by omega) hl'
  · have hk' : k = ls.length := by have := dfalse hge; omega
    subst hk'
    refine ⟨-1, rfl, .inl ⟨rfl, fun l hl => ?_⟩, hp⟩
    obtain ⟨j, hj, e⟩ := List.getElem_of_mem hl
    exact hall j l hj (by rw [List.getElem?_eq_getElem hj, e])
theorem zero_one (z : Array Value) (m : Nat) (h : ∀ v ∈ z.toList, v.oneCell' = true) (h0 : 0 < z.size) : ∀ v ∈ (Builtin.zeroCells z m).toList, v.oneCell' = true := fun v hv => by
  simp only [Builtin.zeroCells, Array.toList_map, List.mem_map] at hv
  obtain ⟨i, _, rfl⟩ := hv
  have hi : i % z.size < z.size := Nat.mod_lt _ h0
  rw [getElem!_pos z _ hi]
  exact h _ (by simp)
theorem clearTail {w : World} {s : SV} {ls : List Lock} (hr : RowAt w 95 4 s (ls.flatMap Lock.cells)) (hne : ls ≠ []) {i : Nat} (hi : i <= ls.length) :
    ∃ w', (Builtin.clear_ #[65] 0 #[.slice (if s.cap = i then s.a else s.a.map (fun x => x.add (i * 4))) (s.len - i) (s.cap - i)]).run Tryz.prog w = .ok (.tuple #[]) w' /\ RowAt w' 95 4 ⟨s.a, i, s.cap⟩ ((ls.take i).flatMap Lock.cells) /\ Fr (· ∈ blkOf s) w w' := by
  have hsl : s.len = ls.length := by have := hr.1; rw [locks_len] at this; omega
  have hpos : 0 < ls.length := List.length_pos_iff.2 hne
  obtain ⟨hv, hc | ⟨g, cur, h3, h4, h5, h6, h7, h8⟩⟩ := hr
  · rw [hc] at hsl; simp at hsl; omega
  have hfr : (ls.take i).flatMap Lock.cells = cur.toList.take (i * 4) := by
    rw [← flat_take, ← h8, List.take_take]; congr 1; omega
  by_cases hm : s.len - i = 0
  · refine ⟨w, ?_, ⟨?_, .inr ⟨g, cur, h3, h4, by show i <= s.cap; omega, h6, h7, hfr.symm⟩⟩, Fr.refl _ _⟩
    · rw [hm]
      generalize (if s.cap = i then s.a else s.a.map (fun x => x.add (i * 4))) = x
      cases x <;> simp [Builtin.clear_, run_underlying u50']
    · rw [locks_len, List.length_take, Nat.min_eq_left hi]
  · have hcap : ¬ s.cap = i := by omega
    rw [if_neg hcap, h3]
    obtain ⟨m, hmm⟩ : ∃ m, s.len - i = m + 1 := ⟨s.len - i - 1, by omega⟩
    have e1 : (some (⟨g, 0, none⟩ : Addr)).map (fun x => x.add (i * 4)) = some ⟨g, i * 4, none⟩ := by simp [add_def]
    rw [e1, hmm]
    obtain ⟨zs, hzs⟩ : ∃ zs, zs = (Builtin.zeroCells (Value.agg #[.int .i64 0, .string ⟨#[]⟩, .int .i64 0, .int .i64 0]).cells (m + 1)).toList := ⟨_, rfl⟩
    have hzl : zs.length = (m + 1) * 4 := by rw [hzs, Array.length_toList, size_zeroCells]; rfl
    have hcl : cur.toList.length = s.cap * 4 := by simp [h7]
    have hst := run_storeCells_at Tryz.prog g (i * 4) 95 zs 0 cur w h4 (by rw [hzl]; omega) (by
      rw [hzs]
      exact zero_one _ _ (fun v hv => by
        have : (Value.agg #[.int .i64 0, .string ⟨#[]⟩, .int .i64 0, .int .i64 0]).cells = #[.int .i64 0, .string ⟨#[]⟩, .int .i64 0, .int .i64 0] := by kernel_rfl
        rw [this] at hv
        simp at hv
        rcases hv with rfl | rfl | rfl | rfl <;> rfl) (by
        have : (Value.agg #[.int .i64 0, .string ⟨#[]⟩, .int .i64 0, .int .i64 0]).cells = #[.int .i64 0, .string ⟨#[]⟩, .int .i64 0, .int .i64 0] := by kernel_rfl
        rw [this]; simp))
    simp only [Nat.add_zero] at hst
    refine ⟨w.setRow g (cur.toList.take (i * 4) ++ zs ++ cur.toList.drop (i * 4 + zs.length)).toArray, ?_, ⟨?_, .inr ⟨g, _, rfl, setRow_heap w g cur _ _ (0, 0) h4, by show i <= s.cap; omega, h6, ?_, ?_⟩⟩, ⟨rfl, rfl, rfl, by simp, fun k _ hk => setRow_other w g k _ (fun e => hk (by simp [blkOf, h3, e]))⟩⟩
    · simp only [Builtin.clear_]
      simp [run_underlying u50', zval70, ← hzs, hst]
    · rw [locks_len, List.length_take, Nat.min_eq_left hi]
    · simp only [List.size_toArray, List.length_append, List.length_take, List.length_drop, hcl, hzl]
      show _ = s.cap * 4
      omega
    · show List.take (i * 4) _ = _
      rw [hfr]
      simp only [List.toList_toArray]
      rw [List.append_assoc, List.take_append_of_le_length (by rw [List.length_take]; omega), List.take_take, Nat.min_self]
set_option maxHeartbeats 1000000 in
theorem deleteFunc_c {w : World} {s : SV} {ls : List Lock} (hr : RowAt w 95 4 s (ls.flatMap Lock.cells)) (hok : ∀ l ∈ ls, l.ok) (hlen : ls.length <= 1000000) {v : Value} {D : World -> Prop} {pred : Lock -> Bool} (cl : Tells v D pred) (hD : D w) (hDs : ∀ w w', D w -> Fr (· ∈ blkOf s) w w' -> D w') :
    Calls Tryz.prog 48 #[.slice s.a s.len s.cap, v] w fun e w' => ∃ s' : SV, e = .returned (.slice s'.a s'.len s'.cap) /\ RowAt w' 95 4 s' ((ls.filter fun l => !pred l).flatMap Lock.cells) /\ Fr (· ∈ blkOf s) w w' /\ blkOf s' = blkOf s := by
  have hsl : s.len = ls.length := by have := hr.1; rw [locks_len] at this; omega
  refine F48_calls s v w _ ?_
  refine Calls.mono (indexFunc_c hr hok hlen cl hD) ?_
  rintro e w1 ⟨n, rfl, hn, hp1⟩
  refine ⟨n, rfl, ?_⟩
  rcases hn with ⟨rfl, hall⟩ | ⟨k0, l0, rfl, hl0, hb0, hall0⟩
  · refine Br.t (by rfl) ?_
    have e : (ls.filter fun l => !pred l) = ls := List.filter_eq_self.2 fun l hl => by rw [hall l hl]; rfl
    exact ⟨s, rfl, by rw [e]; exact hr.pu hp1, Fr.pu hp1, rfl⟩
  have hk0 : k0 < ls.length := (List.getElem?_eq_some_iff.1 hl0).1
  refine Br.f (by simp) ?_
  rw [wrap_in (by omega) (by omega)]
  obtain ⟨fn, first, cap, rfl, hbd, hcl⟩ := cl.ex
  have hf0 : (ls.take (k0 + 1)).filter (fun l => !pred l) = ls.take k0 := by
    have e : ls.take (k0 + 1) = ls.take k0 ++ [l0] := by rw [List.take_add_one, hl0]; rfl
    rw [e, List.filter_append, List.filter_eq_self.2 (fun l hl => by
      obtain ⟨j, hj, e⟩ := List.getElem_of_mem hl
      rw [List.length_take] at hj
      rw [List.getElem_take] at e
      rw [hall0 j l (by omega) (by rw [List.getElem?_eq_getElem (by omega), e])]; rfl)]
    simp [hb0]
  obtain ⟨q, hq⟩ : ∃ q : Nat -> List Lock, q = fun j => (ls.take j).filter fun l => !pred l := ⟨_, rfl⟩
  have hqle : ∀ j, (q j).length <= j := fun j => by
    rw [hq]
    have := List.length_filter_le (fun l => !pred l) (ls.take j)
    rw [List.length_take] at this
    show ((ls.take j).filter _).length <= j
    omega
  refine loopUp (ls.length - (k0 + 1)) (fun m t w' => t = ((((q (k0 + 1 + m)).length : Nat) : Int), ((k0 + 1 + m : Nat) : Int)) /\ ∃ cur : List Lock, RowAt w' 95 4 s (cur.flatMap Lock.cells) /\ cur.length = ls.length /\ cur.take (q (k0 + 1 + m)).length = q (k0 + 1 + m) /\ cur.drop (k0 + 1 + m) = ls.drop (k0 + 1 + m) /\ Fr (· ∈ blkOf s) w w' /\ D w')
    ⟨by rw [hq]; simp only [Nat.add_zero, hf0, List.length_take]; rw [Nat.min_eq_left (by omega)]; rfl, ls, hr.pu hp1, rfl, by rw [hq]; simp only [Nat.add_zero, hf0, List.length_take]; rw [Nat.min_eq_left (by omega)], rfl, Fr.pu hp1, cl.stays hD hp1⟩ ?_
  rintro m J t w2 hm ⟨rfl, cur, hr2, hcl2, hct, hcd, hfr2, hD2⟩ hJ
  have hql := hqle (k0 + 1 + m)
  refine Br.of (fun hlt => ?_) (fun hge => ?_)
  · have hlt' : k0 + 1 + m < ls.length := by have := dtrue hlt; simp only at this; omega
    obtain ⟨l, hl⟩ : ∃ l, ls[k0 + 1 + m]? = some l := ⟨_, List.getElem?_eq_getElem hlt'⟩
    have hlm := List.mem_of_getElem? hl
    have hlc : cur[k0 + 1 + m]? = some l := by
      have h1 : (cur.drop (k0 + 1 + m))[0]? = (ls.drop (k0 + 1 + m))[0]? := by rw [hcd]
      rw [List.getElem?_drop, List.getElem?_drop] at h1
      simpa [hl] using h1
    obtain ⟨a, ha, hi, c0⟩ := hr2.elem (cells := Lock.cells) (fun _ => rfl) hlc (o := 0) (v := .int .i64 l.u) rfl
    obtain ⟨a1, ha1, _, c1⟩ := hr2.elem (cells := Lock.cells) (fun _ => rfl) hlc (o := 1) (v := .string l.name) rfl
    obtain ⟨a2, ha2, _, c2⟩ := hr2.elem (cells := Lock.cells) (fun _ => rfl) hlc (o := 2) (v := .int .i64 l.at_) rfl
    obtain ⟨a3, ha3, _, c3⟩ := hr2.elem (cells := Lock.cells) (fun _ => rfl) hlc (o := 3) (v := .int .i64 l.n) rfl
    rw [ha] at ha1 ha2 ha3; cases ha1; cases ha2; cases ha3
    refine ⟨a, ha, by simp only; omega, by simp only; omega, l.u, by simp only [Int.toNat_natCast]; exact c0, l.name, by simp only [Int.toNat_natCast]; exact c1, l.at_, by simp only [Int.toNat_natCast]; exact c2, l.n, by simp only [Int.toNat_natCast]; exact c3, ?_⟩
    refine alE_intro fun w3 hw3 => ?_
    have hp3 : Pu w2 w3 := by rw [hw3]; exact Pu.alloc w2 _
    have hb3 : w3.heap[w2.heap.size]? = some (.cells #[.int .i64 0, .string ⟨#[]⟩, .int .i64 0, .int .i64 0] 95) := by rw [hw3]; exact alloc_new w2 _
    refine stA_fill hb3 (by kernel_rfl) rfl rfl fun w4 hb4 hf4 hs4 => ?_
    have hP4 : Pu w2 w4 := hp3.andNew hf4 fun i hi => by omega
    refine ⟨l.u, by rw [add_def, cell_blk hb4]; rfl, l.name, by rw [add_def, cell_blk hb4]; rfl, l.at_, by rw [add_def, cell_blk hb4]; rfl, l.n, by rw [add_def, cell_blk hb4]; rfl, hbd, ?_⟩
    refine Calls.mono (hcl w4 l (cl.stays hD2 hP4) (hok l hlm)) ?_
    rintro e w5 ⟨rfl, hp5⟩
    have hb5 := hp5.blk hb4
    have hP5 := hP4.trans hp5
    have hr5 := hr2.pu hP5
    have hD5 := cl.stays hD2 hP5
    have hfr5 : Fr (· ∈ blkOf s) w w5 := hfr2.trans (Fr.pu hP5 : Fr (· ∈ blkOf s) w2 w5) fun i hi _ => hi
    have htk : ls.take (k0 + 1 + (m + 1)) = ls.take (k0 + 1 + m) ++ [l] := by rw [← Nat.add_assoc, List.take_add_one, hl]; rfl
    have hdr : cur.drop (k0 + 1 + (m + 1)) = ls.drop (k0 + 1 + (m + 1)) := by
      have := congrArg (List.drop 1) hcd
      rw [List.drop_drop, List.drop_drop] at this
      exact this
    have hqs : q (k0 + 1 + (m + 1)) = q (k0 + 1 + m) ++ [l].filter fun l => !pred l := by rw [hq]; simp only; rw [htk, List.filter_append]
    refine ⟨_, rfl, Br.of (fun hb => ?_) (fun hb => ?_)⟩
    · have hb' : pred l = false := by simpa using hb
      have hq1 : q (k0 + 1 + (m + 1)) = q (k0 + 1 + m) ++ [l] := by rw [hqs]; simp [hb']
      have hil : (q (k0 + 1 + m)).length < cur.length := by omega
      refine ⟨l.u, by rw [add_def, cell_blk hb5]; rfl, l.name, by rw [add_def, cell_blk hb5]; rfl, l.at_, by rw [add_def, cell_blk hb5]; rfl, l.n, by rw [add_def, cell_blk hb5]; rfl, ?_⟩
      obtain ⟨a', ha', hst⟩ := RowAt.stElem (P := Tryz.prog) (t := 95) hr5 (cells := Lock.cells) (fun _ => rfl) (by omega) hil l (by kernel_rfl) rfl (K := fun w8 => J ((IntKind.i64.wrap ((((q (k0 + 1 + m)).length : Nat) : Int) + 1)), (IntKind.i64.wrap (((k0 + 1 + m : Nat) : Int) + 1))) w8) fun w8 hr8 hf8 hs8 => by
        rw [wrap_in (by omega) (by omega), wrap_in (by omega) (by omega)]
        refine hJ _ _ (by omega) ⟨by rw [hq1, List.length_append]; simp only [List.length_cons, List.length_nil, Prod.mk.injEq]; omega, cur.set (q (k0 + 1 + m)).length l, hr8, by rw [List.length_set]; exact hcl2, ?_, ?_, hfr5.trans hf8 fun i hi _ => hi, hDs _ _ hD5 hf8⟩
        · rw [hq1, List.length_append, List.length_cons, List.length_nil, List.take_add_one, List.getElem?_set_self hil, List.take_set_of_le (by omega), hct]
          rfl
        · rw [List.drop_set_of_lt (by omega)]; exact hdr
      rw [ha] at ha'; cases ha'
      exact ⟨a, ha, by simp only; omega, by simp only; omega, by simp only [Int.toNat_natCast]; exact hst⟩
    · have hb' : pred l = true := by simpa using hb
      have hq1 : q (k0 + 1 + (m + 1)) = q (k0 + 1 + m) := by rw [hqs]; simp [hb']
      simp only
      rw [wrap_in (by omega) (by omega)]
      refine hJ _ _ (by omega) ⟨by rw [hq1]; simp only [Prod.mk.injEq, true_and]; omega, cur, hr5, hcl2, by rw [hq1]; exact hct, hdr, hfr5, hD5⟩
  · have hge' : k0 + 1 + m = ls.length := by have := dfalse hge; simp only at this; omega
    have hqf : q (k0 + 1 + m) = ls.filter fun l => !pred l := by rw [hq, hge']; simp only [List.take_length]
    have hcap := hr2.le_cap
    simp only
    refine ⟨hcap.1, by omega, by omega, ?_⟩
    rw [Int.toNat_natCast]
    obtain ⟨w3, hrc, hr3, hf3⟩ := clearTail hr2 (fun e => by rw [e] at hcl2; simp at hcl2; omega) (i := (q (k0 + 1 + m)).length) (by omega)
    refine ⟨w3, hrc, by omega, by omega, by omega, ⟨s.a, (q (k0 + 1 + m)).length, s.cap⟩, ?_, ?_, hfr2.trans hf3 fun i hi _ => hi, by rfl⟩
    · have e0 : (if s.cap = 0 then s.a else s.a.map (fun x => x.add (0 * 4))) = s.a := by
        split
        · rfl
        · cases s.a with
          | none => rfl
          | some x => simp [Addr.add]
      rw [e0]; rfl
    · rw [hct, hqf] at hr3; rw [hqf]; exact hr3
end Go.Proofs.YtnigfiljenfgjaaGreat

/- The disk: a station falls, second part. -/
set_option maxRecDepth 100000
set_option linter.unusedVariables false
set_option linter.unusedSimpArgs false
namespace Go.Proofs.YtnigfiljenfgjaaGreat
open Go.Sh Go.RowKit
def isArr32 (P : Program) (t : TypeId) : Bool := match P.underlying t with
  | some (.array n e) => Nat.beq n 32 && !aggB P e && (P.underlying e).isSome && (P.info? e).isSome && Nat.beq (sizeB P e) 1
  | _ => false
theorem arr87 : isArr32 Tryz.prog 87 = true := by kernel_rfl
theorem index_bool {w : World} {cs : Array Value} {i : Nat} {b : Bool} (hi : i < 32) (hc : cs[i]? = some (.bool b)) : (Instr.index 87 (.agg cs) (.int .i64 (i : Int))).run Tryz.prog w = .ok (.bool b) w := by
  have h := arr87
  unfold isArr32 at h
  split at h
  · rename_i n e he
    simp only [Bool.and_eq_true, Bool.not_eq_true'] at h
    obtain ⟨⟨⟨⟨h1, h2⟩, h3⟩, h4⟩, h5⟩ := h
    have h1 := Nat.eq_of_beq_eq_true h1
    have h5 := Nat.eq_of_beq_eq_true h5
    subst h1
    have hin : (0 : Int) <= (i : Int) /\ (i : Int) < ((32 : Nat) : Int) := by omega
    simp only [Instr.index, asIntOf, Sem.run_bind, Sem.run_pure, Result.andThen_ok, run_under he, if_pos hin, run_sizeOf' h4, h5, Int.toNat_natCast, Nat.mul_one]
    exact run_part_one h2 h3 hc
  · cases h
def dirtyN (pg : Page) : Nat := ((List.range 32).filter pg.di).length
theorem dirtyN_le (pg : Page) : dirtyN pg <= 32 := by
  have := List.length_filter_le pg.di (List.range 32)
  rw [List.length_range] at this; exact this
def sumD (l : List (Place × Page)) : Nat := (l.map fun q => dirtyN q.2).sum
theorem sumD_le : ∀ l : List (Place × Page), sumD l <= 32 * l.length
  | [] => by simp [sumD]
  | q :: l => by
    have := sumD_le l
    have := dirtyN_le q.2
    simp only [sumD, List.map_cons, List.sum_cons, List.length_cons] at *
    omega
theorem ext_di (pg : Page) {i : Nat} (hi : i < 32) : (pg.cells.extract 64 96)[i]? = some (.bool (pg.di i)) := by
  rw [← pg.get_di hi, Array.getElem?_extract]
  rw [if_pos (by rw [Page.size_cells]; omega)]
def fallC (u : Int) : Int := if u < 0 ∨ u ≥ 4 then 1 else 0
def fallS (u : Int) (σ : Sys) : Sys := if fallC u = 0 then { σ with caches := fun v => if v = u.toNat then [] else σ.caches v, locks := σ.locks.filter fun l => !decide (l.u = u) } else σ
def fallN (u : Int) (σ : Sys) : Nat := if fallC u = 0 then sumD (σ.caches u.toNat) else 0
def Lay.newC (d : Lay) (u N : Nat) : Lay := { d with c := fun v => if v = u then N else d.c v }
theorem newC_own {d : Lay} {u N : Nat} (hu : u < 4) : (d.newC u N).own = d.own.set (2 + u) N := by
  rcases (by omega : u = 0 ∨ u = 1 ∨ u = 2 ∨ u = 3) with rfl | rfl | rfl | rfl <;> simp [Lay.own, Lay.newC]
theorem set_nodup {α : Type} : ∀ {l : List α}, l.Nodup -> ∀ {x : α}, x ∉ l -> ∀ i, (l.set i x).Nodup
  | [], _, x, _, i => by simp
  | a :: l, h, x, hx, 0 => by
    simp only [List.nodup_cons, List.mem_cons, not_or, List.set_cons_zero] at *
    exact ⟨hx.2, h.2⟩
  | a :: l, h, x, hx, i + 1 => by
    simp only [List.nodup_cons, List.mem_cons, not_or, List.set_cons_succ] at *
    refine ⟨fun hm => ?_, set_nodup h.2 hx.2 i⟩
    rcases List.mem_or_eq_of_mem_set hm with h1 | h1
    · exact h.1 h1
    · exact hx.1 h1.symm
theorem SysAt.newC {w w' : World} {d : Lay} {mu : Int} {σ : Sys} (h : SysAt w d mu σ) {u : Nat} (hu : u < 4) {l : List (Place × Page)} (hm : MapAt w' ekP evP w.heap.size l) (hf : Fr (· = d.S) w w')
    (hst : w'.heap[d.S]? = some (.cells (#[.int .i32 mu, .int .u32 0, .map (some d.M), .map (some (d.c 0)), .map (some (d.c 1)), .map (some (d.c 2)), .map (some (d.c 3)), .slice d.ls.a d.ls.len d.ls.cap].setIfInBounds (3 + u) (.map (some w.heap.size))) 67)) : SysAt w' (d.newC u w.heap.size) mu (σ.setCache u l) := by
  obtain ⟨n1, n2, n3, n4, n5⟩ := h.ne
  have hlt := h.lt
  have hnd := h.nd
  refine ⟨?_, h.mp.fr hf (fun e => n1 e.symm), h.fl.fr hf fun p hp b hb e => (n5 p hp b hb).1 e, fun v hv => ?_, h.lk.fr hf fun b hb e => (n4 b hb).1 e, ?_⟩
  · rw [show (d.newC u w.heap.size).S = d.S from rfl, hst]
    rcases (by omega : u = 0 ∨ u = 1 ∨ u = 2 ∨ u = 3) with rfl | rfl | rfl | rfl <;> rfl
  · by_cases e : v = u
    · subst e; simp only [Lay.newC, Sys.setCache, if_true]; exact hm
    · simp only [Lay.newC, Sys.setCache, if_neg e]
      exact (h.ca v hv).fr hf fun e => (n2 v hv).1 e.symm
  · rw [newC_own hu]
    exact set_nodup hnd (fun hx => by have := hlt _ hx; omega) _
set_option maxHeartbeats 1000000 in
theorem fall_c {w : World} {d : Lay} {σ : Sys} (h : SysAt w d 0 σ) (hG : Good σ) (hL : LocksOk σ) (u : Int) :
    Calls Tryz.prog 14 #[d.ptr, .int .i64 u] w fun e w' => e = .returned (.tuple #[.int .i64 (fallN u σ : Nat), .int .i64 (fallC u)]) /\ ∃ d', Left w w' d d' (fallS u σ) := by
  refine F14_calls _ u w _ ?_
  refine alE_intro fun w1 hw1 => ?_
  have hp1 : Pu w w1 := by rw [hw1]; exact Pu.alloc w _
  have hb1 : w1.heap[w.heap.size]? = some (.cells #[.int .i64 u] 3) := by rw [hw1]; exact alloc_new w _
  have h1 := h.pu hp1
  refine ⟨false, w1, eqS_ptr_nil u23 _ _ _ w1, ?_⟩
  show Calls Tryz.prog 46 #[.pointer (some ⟨d.S, 0, none⟩)] w1 _
  refine Calls.mono (muLock (by rw [h1.cellS]; rfl) (frozen_blk h1.st 0)) ?_
  rintro e w2 ⟨rfl, hw2⟩
  have h2 : SysAt w2 d 1 σ := by rw [hw2]; exact h1.setMu 1
  have hf2 : Fr (· = d.S) w1 w2 := by rw [hw2]; exact Fr.setCell w1 ⟨d.S, 0, none⟩ _
  have hSlt := h.lt _ (mem_S d)
  have hf2' : Fr (· ∈ d.own) w w2 := (Fr.pu hp1 : Fr (· ∈ d.own) w w1).trans hf2 fun i hi _ => by rw [show i = d.S from hi]; exact mem_S d
  have hb2 := hf2.blk hb1 (by show ¬ _ = _; omega)
  refine ⟨rfl, u, by rw [cell_blk hb2]; rfl, Br.of (fun c1 => ?_) (fun c1 => ?_)⟩
  · have hC : fallC u = 1 := by rw [fallC, if_pos (.inl (dtrue c1))]
    exact leave_left h2 hf2' fun w' hL' _ => ⟨by rw [hC, fallN, hC]; rfl, d, by rw [fallS, hC]; exact hL'⟩
  refine ⟨u, by rw [cell_blk hb2]; rfl, Br.of (fun c2 => ?_) (fun c2 => ?_)⟩
  · have hC : fallC u = 1 := by rw [fallC, if_pos (.inr (dtrue c2))]
    exact leave_left h2 hf2' fun w' hL' _ => ⟨by rw [hC, fallN, hC]; rfl, d, by rw [fallS, hC]; exact hL'⟩
  have c1 := dfalse c1
  have c2 := dfalse c2
  have hC : fallC u = 0 := by rw [fallC, if_neg (by omega)]
  obtain ⟨v, rfl⟩ := Int.eq_ofNat_of_zero_le (by omega : 0 <= u)
  have hv : v < 4 := by omega
  have hN : fallN (v : Int) σ = sumD (σ.caches v) := by rw [fallN, if_pos hC]; rfl
  have hS : fallS (v : Int) σ = { σ with caches := fun x => if x = v then [] else σ.caches x, locks := σ.locks.filter fun l => !decide (l.u = (v : Int)) } := by rw [fallS, if_pos hC]; simp
  rw [hC, hN, hS]
  refine dwE_intro fun w3 hp3 hh3 => ?_
  have h3 := h2.pu hp3
  have hb3 := hp3.blk hb2
  obtain ⟨w4, hr4, hi4, hp4, hs4⟩ := (h3.ca v hv).range (t := 63) u48
  refine ⟨(v : Int), by rw [cell_blk hb3]; rfl, by omega, by omega, some (d.c v), h3.cellC hv, _, w4, hr4, ?_⟩
  have hf3 : Fr (· ∈ d.own) w w3 := hf2'.trans (Fr.pu hp3 : Fr (· ∈ d.own) w2 w3) fun i hi _ => hi
  have hcn := hG.cnt v hv
  have htot := sumD_le (σ.caches v)
  refine loopDown (σ.caches v).length (fun m s w' => ∃ todo : List (Place × Page), todo.length = m /\ todo.length <= (σ.caches v).length /\ s = (((sumD (σ.caches v) - sumD todo : Nat)) : Int) /\ sumD todo <= sumD (σ.caches v) /\ IterAt w' ekP evP w3.heap.size (d.c v) (σ.caches v) todo /\ Pu w3 w')
    ⟨σ.caches v, rfl, Nat.le_refl _, by omega, Nat.le_refl _, hi4, hp4⟩ ?_
  rintro m J s w5 ⟨todo, hm, htl, rfl, hle, hit, hp5⟩ hJ
  rcases hit.next (P := Tryz.prog) 0 with ⟨hnil, hr⟩ | ⟨p, hpm, w6, hr, hf6, hs6, hit6, hen⟩
  · refine .inl ⟨w5, hr, ?_⟩
    subst hnil
    have hz : sumD ([] : List (Place × Page)) = 0 := rfl
    rw [hz, Nat.sub_zero]
    have h5 := h3.pu hp5
    have hb5 := hp5.blk hb3
    have hf5 : Fr (· ∈ d.own) w w5 := hf3.trans (Fr.pu hp5 : Fr (· ∈ d.own) w3 w5) fun i hi _ => hi
    refine dwE_intro fun w6 hp6 hh6 => ?_
    have h6 := h5.pu hp6
    have hb6 := hp6.blk hb5
    refine ⟨fun wx => wx.heap[w.heap.size]? = some (.cells #[.int .i64 (v : Int)] 3), hb6, (v : Int), fun wx hx => by rw [cell_blk hx]; rfl, ?_⟩
    rw [ptrE_some]
    refine alE_intro fun w7 hw7 => ?_
    have hp7 : Pu w6 w7 := by rw [hw7]; exact Pu.alloc w6 _
    have hb7 := hp7.blk hb6
    have h7 := h6.pu hp7
    refine ⟨hb7, by omega, by omega, ?_⟩
    rw [add_def, add_def]
    refine st1_intro h7.st (by show 0 + 3 + (v : Int).toNat * 1 < 8; omega) fun w8 hw8 hb8 => ?_
    have hf8 : Fr (· = d.S) w7 w8 := by rw [hw8]; exact Fr.cell w7 _ _ _
    have hMn : MapAt w7 ekP evP w6.heap.size ([] : List (Place × Page)) := by rw [hw7]; exact MapAt.new w6 ekP evP
    have hS6 := h6.lt _ (mem_S d)
    have h8 := h6.newC (w' := w8) hv (hMn.fr hf8 (by show ¬ _ = _; omega)) ((Fr.pu hp7 : Fr (· = d.S) w6 w7).trans hf8 fun i hi _ => hi) (by rw [hb8]; congr 3; omega)
    have hz6 : w.heap.size < w6.heap.size := blk_lt hb6
    obtain ⟨N, hNw⟩ : ∃ N, N = w6.heap.size := ⟨_, rfl⟩
    rw [← hNw] at h8
    have hb8' := hf8.blk hb7 (by show ¬ _ = _; omega)
    have hf8' : Fr (· ∈ d.own) w w8 := (hf5.trans (Fr.pu (hp6.trans hp7) : Fr (· ∈ d.own) w5 w7) fun i hi _ => hi).trans hf8 fun i hi _ => by rw [show i = d.S from hi]; exact mem_S d
    refine ⟨d.ls, h8.cellL, ?_⟩
    have hlsown : ∀ b ∈ blkOf d.ls, b < w.heap.size /\ b ∈ d.own := fun b hb => by
      have : b ∈ d.own := by simp [Lay.own, hb]
      exact ⟨h.lt b this, this⟩
    refine Calls.mono (deleteFunc_c h8.lk hL.1 hL.2 (tells_of (r3 := w.heap.size) (u := (v : Int))) hb8' (fun wa wb ha hfab => hfab.blk ha fun hx => by have := (hlsown _ hx).1; omega)) ?_
    rintro e w9 ⟨s', rfl, hr9, hf9, hbs⟩
    refine ⟨s', rfl, ?_⟩
    have hSls : d.S ∉ blkOf d.ls := fun hx => (h.ne.2.2.2.1 _ hx).1 rfl
    have hst9 := hf9.blk h8.st hSls
    rw [ptrE_some, add_def]
    refine st1_intro hst9 (by show 0 + 7 < 8; omega) fun w10 hw10 hb10 => ?_
    have hf10 : Fr (· = d.S) w9 w10 := by rw [hw10]; exact Fr.cell w9 _ _ _
    have hfr10 : Fr (fun b => b ∈ blkOf d.ls ∨ b = d.S) w8 w10 := (hf9.mono fun b hb _ => .inl hb : Fr (fun b => b ∈ blkOf d.ls ∨ b = d.S) w8 w9).trans hf10 fun i hi _ => .inr hi
    have h10 := h8.setLocks (w' := w10) (ls' := s') (locks' := σ.locks.filter fun l => !decide (l.u = (v : Int))) (hr9.fr hf10 fun b hb hx => by rw [hbs] at hb; exact hSls (by rw [show d.S = b from (show b = d.S from hx).symm]; exact hb)) hfr10 (by show w10.heap[d.S]? = _; simpa using hb10) (fun b hb => .inl (by rw [hbs] at hb; exact hb))
    show runD Tryz.prog [leaveD { d.newC v N with ls := s' }] w10 _
    refine leave_c h10 fun w11 h11 hf11 _ => ⟨rfl, _, ⟨h11, ((hf8'.trans hfr10 fun i hi _ => ?_).trans hf11 fun i hi _ => by rw [show i = d.S from hi]; exact mem_S d), fun b hb => ?_, rfl⟩⟩
    · rcases hi with hi | hi
      · exact (hlsown _ hi).2
      · rw [hi]; exact mem_S d
    · have hb' : b ∈ (d.newC v N).own := by
        simp only [Lay.own, List.mem_cons, List.mem_append, hbs] at hb ⊢
        exact hb
      rw [newC_own hv] at hb'
      rcases List.mem_or_eq_of_mem_set hb' with h1 | h1
      · exact .inl h1
      · exact .inr (by omega)
  · obtain ⟨⟨nm, q⟩, pg⟩ := p
    refine .inr ⟨_, _, w6, hr, _, _, w6, hen, ?_⟩
    have hlen2 : (AL.del todo (nm, q)).length + 1 = todo.length := AL.length_del hpm hit.nodup
    have hsum : sumD todo = dirtyN pg + sumD (AL.del todo (nm, q)) := by
      have := ((AL.perm_del hpm hit.nodup).map fun q => dirtyN q.2).sum_nat
      simpa [sumD] using this
    show dRow (.agg pg.cells) _
    rw [dRow_mk]
    have hltr : w3.heap.size < w5.heap.size := hit.ltr
    have hp6 : Pu w3 w6 := hp5.andNew hf6 fun i hi => by rw [show i = w3.heap.size from hi]; exact Nat.le_refl _
    refine alE_intro fun w7 hw7 => ?_
    have hp7 : Pu w6 w7 := by rw [hw7]; exact Pu.alloc w6 _
    have hb7 : w7.heap[w6.heap.size]? = some (.cells (zc Tryz.prog 89) 89) := by rw [hw7]; exact alloc_new w6 _
    refine stA_fill hb7 (by rw [Page.size_cells, size61]) (by rw [zero61, Page.size_cells, Page.size_cells]) (Page.one _) fun w8 hb8 hf8 hs8 => ?_
    have hP8 : Pu w6 w8 := hp7.andNew hf8 fun i hi => by omega
    have hit8 := hit6.fr (Fr.pu hP8 : Fr (fun _ => False) w6 w8) (fun h => h) (fun h => h)
    refine ⟨pg.cells.extract 64 96, by simp [Page.size_cells], fun i hi => by rw [add_def, add_def, cell_blk hb8, ext_di pg hi, show 0 + 64 + i = 64 + i by omega]; exact pg.get_di hi, ?_⟩
    have hdn := dirtyN_le pg
    obtain ⟨cnt, hcnt⟩ : ∃ cnt : Nat -> Nat, cnt = fun j => ((List.range j).filter pg.di).length := ⟨_, rfl⟩
    have hcle : ∀ j, cnt j <= j := fun j => by
      rw [hcnt]
      have := List.length_filter_le pg.di (List.range j)
      rw [List.length_range] at this; exact this
    refine loopUp 32 (fun j t w' => w' = w8 /\ t = ((((sumD (σ.caches v) - sumD todo + cnt j : Nat)) : Int), (j : Int))) ⟨rfl, by rw [hcnt]; simp⟩ ?_
    rintro j J2 t w9 hj ⟨rfl, rfl⟩ hJ2
    have hcj := hcle j
    refine Br.of (fun d1 => ?_) (fun d1 => ?_)
    · have hj32 : j < 32 := by have := dtrue d1; simp only at this; omega
      refine ⟨pg.di j, w9, index_bool hj32 (ext_di pg hj32), ?_⟩
      have hc1 : cnt (j + 1) = cnt j + if pg.di j then 1 else 0 := by
        rw [hcnt]; simp only; rw [List.range_succ, List.filter_append, List.length_append]
        cases hdj : pg.di j <;> simp [hdj]
      refine Br.of (fun d2 => ?_) (fun d2 => ?_)
      · simp only
        rw [wrap_in (by omega) (by omega), wrap_in (by omega) (by omega)]
        refine hJ2 _ _ hj32 ⟨rfl, ?_⟩
        rw [hc1, d2]; simp only [if_true, Prod.mk.injEq]; omega
      · simp only
        rw [wrap_in (by omega) (by omega)]
        refine hJ2 _ _ hj32 ⟨rfl, ?_⟩
        rw [hc1, d2]; simp
    · have hj32 : j = 32 := by have := dfalse d1; simp only at this; omega
      subst hj32
      have hc32 : cnt 32 = dirtyN pg := by rw [hcnt]; rfl
      refine hJ (m - 1) _ _ (by omega) ⟨AL.del todo (nm, q), by omega, by omega, ?_, by omega, hit8, hp6.trans hP8⟩
      simp only
      rw [hc32]; omega
end Go.Proofs.YtnigfiljenfgjaaGreat

/- Contracts of the library at this dump, laid by the shelf. No condition but those that each states. -/
namespace Go.Proofs
open Go.Shelf
def Tryz.lays189_ren : Go.Shelf.Ren := ⟨fun | 189 => 85 | 125 => 103 | 257 => 108 | 128 => 132 | 129 => 133 | 294 => 135 | 295 => 136 | 296 => 137 | 297 => 138 | 298 => 139 | 299 => 140 | 216 => 141 | 300 => 142 | 301 => 143 | 328 => 165 | 329 => 161 | 330 => 162 | 331 => 166 | 332 => 167 | 215 => 134 | 343 => 173 | n => n, fun | 28 => 74 | 3 => 3 | 46 => 144 | 0 => 0 | 51 => 58 | 53 => 175 | 4 => 4 | 183 => 167 | 182 => 166 | 131 => 171 | 5 => 5 | 9 => 9 | 218 => 193 | 222 => 197 | 228 => 203 | 229 => 204 | n => n, fun | n => n⟩
theorem Tryz.lays189 : Go.Proofs.Lays.n189 Tryz.prog Tryz.lays189_ren := {
  mixed := by kernel_rfl
  f125 := Tryz.func103.trans (congrArg some (by kernel_rfl))
  f128 := Tryz.func132.trans (congrArg some (by kernel_rfl))
  f129 := Tryz.func133.trans (congrArg some (by kernel_rfl))
  f189 := Tryz.func85.trans (congrArg some (by kernel_rfl))
  f215 := Tryz.func134.trans (congrArg some (by kernel_rfl))
  f216 := Tryz.func141.trans (congrArg some (by kernel_rfl))
  f257 := Tryz.func108.trans (congrArg some (by kernel_rfl))
  f294 := Tryz.func135.trans (congrArg some (by kernel_rfl))
  f295 := Tryz.func136.trans (congrArg some (by kernel_rfl))
  f296 := Tryz.func137.trans (congrArg some (by kernel_rfl))
  f297 := Tryz.func138.trans (congrArg some (by kernel_rfl))
  f298 := Tryz.func139.trans (congrArg some (by kernel_rfl))
  f299 := Tryz.func140.trans (congrArg some (by kernel_rfl))
  f300 := Tryz.func142.trans (congrArg some (by kernel_rfl))
  f301 := Tryz.func143.trans (congrArg some (by kernel_rfl))
  f328 := Tryz.func165.trans (congrArg some (by kernel_rfl))
  f329 := Tryz.func161.trans (congrArg some (by kernel_rfl))
  f330 := Tryz.func162.trans (congrArg some (by kernel_rfl))
  f331 := Tryz.func166.trans (congrArg some (by kernel_rfl))
  f332 := Tryz.func167.trans (congrArg some (by kernel_rfl))
  f343 := Tryz.func173.trans (congrArg some (by kernel_rfl))
  t0 := Tryz.underlying0
  a0 := Tryz.isAgg0
  z0 := Tryz.sizeOf0
  v0 := Tryz.zeroValue0
  t3 := Tryz.underlying3
  a3 := Tryz.isAgg3
  z3 := Tryz.sizeOf3
  v3 := Tryz.zeroValue3
  t4 := Tryz.underlying4
  a4 := Tryz.isAgg4
  z4 := Tryz.sizeOf4
  v4 := Tryz.zeroValue4
  t5 := Tryz.underlying5
  a5 := Tryz.isAgg5
  z5 := Tryz.sizeOf5
  v5 := Tryz.zeroValue5
  t9 := Tryz.underlying9
  a9 := Tryz.isAgg9
  z9 := Tryz.sizeOf9
  v9 := Tryz.zeroValue9
  t28 := Tryz.underlying74
  a28 := Tryz.isAgg74
  z28 := Tryz.sizeOf74
  v28 := Tryz.zeroValue74
  t46 := Tryz.underlying144
  a46 := Tryz.isAgg144
  z46 := Tryz.sizeOf144
  v46 := Tryz.zeroValue144
  t51 := Tryz.underlying58
  a51 := Tryz.isAgg58
  z51 := Tryz.sizeOf58
  v51 := Tryz.zeroValue58
  t53 := Tryz.underlying175
  a53 := Tryz.isAgg175
  z53 := Tryz.sizeOf175
  v53 := Tryz.zeroValue175
  t131 := Tryz.underlying171
  a131 := Tryz.isAgg171
  z131 := Tryz.sizeOf171
  v131 := Tryz.zeroValue171
  t182 := Tryz.underlying166
  a182 := Tryz.isAgg166
  z182 := Tryz.sizeOf166
  v182 := Tryz.zeroValue166
  t183 := Tryz.underlying167
  a183 := Tryz.isAgg167
  z183 := Tryz.sizeOf167
  v183 := Tryz.zeroValue167
  t218 := Tryz.underlying193
  a218 := Tryz.isAgg193
  z218 := Tryz.sizeOf193
  v218 := Tryz.zeroValue193
  t222 := Tryz.underlying197
  a222 := Tryz.isAgg197
  z222 := Tryz.sizeOf197
  v222 := Tryz.zeroValue197
  t228 := Tryz.underlying203
  a228 := Tryz.isAgg203
  z228 := Tryz.sizeOf203
  v228 := Tryz.zeroValue203
  t229 := Tryz.underlying204
  a229 := Tryz.isAgg204
  z229 := Tryz.sizeOf204
  v229 := Tryz.zeroValue204 }
open Go.Sort Go.RowKit in
theorem Tryz.slices_Sort_int (blk off cap : Nat) (zs : List Int) (w : World) (hH : Holds (Value.int .i64) w blk off zs.toArray) (hblk : blk < w.heap.size) (hsz : zs.length < 4611686018427387904) :
    Calls Tryz.prog 85 #[.slice (some ⟨blk, off, none⟩) zs.length cap] w fun e w' =>
      e = .returned (.tuple #[]) /\ ∃ n os, w' = grow (putRow (Value.int .i64) (Sort.ahead w n) blk off (zs.mergeSort fun x y => decide (x <= y)).toArray) os := Any.slices_Sort_int Tryz.lays189 blk off cap zs w hH hblk hsz
open Go.RowKit Go.Sort in
theorem Tryz.slices_Sort_int_none (p : Option Addr) (cap : Nat) (w : World) :
    Calls Tryz.prog 85 #[.slice p 0 cap] w fun e w' => e = .returned (.tuple #[]) /\ w' = w := Any.slices_Sort_int_none Tryz.lays189 p cap w
end Go.Proofs

/- The disk: what is dirty. -/
set_option maxRecDepth 100000
set_option linter.unusedVariables false
set_option linter.unusedSimpArgs false
namespace Go.Proofs.YtnigfiljenfgjaaGreat
open Go.Sh Go.RowKit Go.Sort
def iV (n : Int) : Value := .int .i64 n
theorem row_ownsI {w : World} {b : Nat} {e : TypeId} {sz n : Nat} {s : SV} {vs : List Value} (h : w.ownsRow b e sz (.slice s.a s.len s.cap) n vs) (hn : n = s.len) : RowAt w e sz s vs := by
  obtain ⟨h1, ⟨h2, h3⟩ | ⟨g, cap, cur, h2, h3, h4, h5, h6, h7, h8⟩⟩ := h
  · simp only [Value.slice.injEq] at h2
    obtain ⟨e1, e2, e3⟩ := h2
    obtain ⟨a, l, c⟩ := s
    simp only at e1 e2 e3
    subst e1; subst e2; subst e3
    exact ⟨by rw [h1, hn], .inl rfl⟩
  · simp only [Value.slice.injEq] at h2
    obtain ⟨e1, e2, e3⟩ := h2
    subst hn
    exact ⟨h1, .inr ⟨g, cur, e1, h4, by omega, by omega, by rw [e3]; exact h7, h8⟩⟩
theorem sortInts_c (w : World) (s : SV) (l : List Int) (h : RowAt w 3 1 s (l.map iV)) (hl : l.length <= 140737488355328) :
    Calls Tryz.prog 85 #[.slice s.a s.len s.cap] w fun e w' => e = .returned (.tuple #[]) /\ RowAt w' 3 1 s ((l.mergeSort fun x y => decide (x <= y)).map iV) /\ Fr (· ∈ blkOf s) w w' := by
  have hlen : s.len = l.length := by have := h.1; simp at this; omega
  have hs := h
  obtain ⟨h1, rfl | ⟨g, cur, h3, h4, h5, h6, h7, h8⟩⟩ := h
  · have hl0 : l = [] := List.eq_nil_of_length_eq_zero (by simpa using hlen.symm)
    subst hl0
    refine Calls.mono (Tryz.slices_Sort_int_none none 0 w) ?_
    rintro e w' ⟨rfl, rfl⟩
    exact ⟨rfl, by simpa using hs, Fr.refl _ _⟩
  · have hcur : cur.toList.take l.length = l.map (Value.int .i64) := by
      rw [Nat.mul_one] at h8
      rw [← hlen, h8]; rfl
    have hH := holds_of_blockI h4 hcur
    have key := Tryz.slices_Sort_int g 0 s.cap l w hH (blk_lt h4) (by omega)
    rw [← hlen] at key
    rw [h3]
    refine Calls.mono key ?_
    rintro e w' ⟨rfl, n, os, rfl⟩
    refine ⟨rfl, ?_, ?_⟩
    · have ho := ownsRow_sortedI (n := n) (os := os) (ts := l.mergeSort fun x y => decide (x <= y)) (ss := l) (by simp) (Nat.zero_le g) h4 (by omega) h6 h7
      rw [← hlen, ← h3] at ho
      exact row_ownsI ho rfl
    · have hg := grownBy_sortedI (w := w) (g := g) (n := n) (os := os) (l.mergeSort fun x y => decide (x <= y)).toArray
      exact ⟨hg.os, hg.tape, hg.output, hg.size, fun k hk hn => hg.block k hk fun e => hn (by cases e; simp [blkOf, h3])⟩
def rawP (pg : Page) (kk : Int) (m : Nat) : List Int := ((List.range m).filter pg.di).map fun j => kk * 32 + ((j : Nat) : Int)
def rawOf (σ : Sys) (u : Nat) (ps : List Place) : List Int := ps.flatMap fun p => rawP (pageOf σ u p) p.2 32
theorem rawP_le (pg : Page) (kk : Int) (m : Nat) : (rawP pg kk m).length <= m := by
  have := List.length_filter_le pg.di (List.range m)
  rw [List.length_range] at this
  rw [rawP, List.length_map]; exact this
theorem rawOf_le (σ : Sys) (u : Nat) : ∀ ps : List Place, (rawOf σ u ps).length <= 32 * ps.length
  | [] => by simp [rawOf]
  | p :: ps => by
    have h1 := rawOf_le σ u ps
    have h2 := rawP_le (pageOf σ u p) p.2 32
    simp only [rawOf, List.flatMap_cons, List.length_append, List.length_cons] at *
    omega
set_option maxHeartbeats 1000000 in
theorem dirty_c {w : World} {d : Lay} {σ : Sys} (h : SysAt w d 0 σ) (hG : Good σ) (u : Int) (name : ByteArray) :
    Calls Tryz.prog 37 #[d.ptr, .int .i64 u, .string name] w fun e w' => ∃ (l : SV) (zs : List Int), e = .returned (.tuple #[.slice l.a l.len l.cap, .int .i64 (enterC u name σ)]) /\ Left w w' d d σ /\ RowAt w' 3 1 l (zs.map iV) /\ (∀ b ∈ blkOf l, w.heap.size <= b) /\
      ((enterC u name σ ≠ 0 /\ zs = []) ∨ (enterC u name σ = 0 /\ zs.Pairwise (· <= ·) /\ ∃ ps : List Place, ps.Perm (((σ.caches u.toNat).map Prod.fst).filter (inPages name 0 65536)) /\ zs.Perm (rawOf σ u.toNat ps))) := by
  refine F37_calls _ _ _ w _ ?_
  refine Calls.mono (enter_c h u name) ?_
  rintro e w2 ⟨rfl, h2, hf2⟩
  have hf2' : Fr (· ∈ d.own) w w2 := hf2.mono fun i hi _ => by rw [show i = d.S from hi]; exact mem_S d
  refine ⟨_, _, rfl, Br.of (fun he => ?_) (fun he => ?_)⟩
  · have he : enterC u name σ ≠ 0 := by simpa using he
    exact leave_left h2 hf2' fun w' hL _ => ⟨⟨none, 0, 0⟩, [], rfl, hL, RowAt.nil _ _ _, by simp [blkOf], .inl ⟨he, rfl⟩⟩
  have he : enterC u name σ = 0 := by simpa using he
  obtain ⟨hu0, hu4, f, hf⟩ := enterC_zero he
  obtain ⟨un, rfl⟩ := Int.eq_ofNat_of_zero_le hu0
  have hun : un < 4 := by omega
  have hnd := (h.ca un hun).nodup
  refine Calls.mono (pages_c h2 hG.near hun name (by omega) (by omega) (hG.cnt un hun)) ?_
  rintro e w3 ⟨l, ps, rfl, hrow, hperm, hp3, hblk⟩
  refine ⟨l, rfl, ?_⟩
  have hfl := flat_len ps
  have hl : l.len = ps.length := by have := hrow.1; omega
  rw [hl]
  have hps : ∀ p ∈ ps, p ∈ (σ.caches un).map Prod.fst /\ p.1 = name := fun p hp => by
    have := hperm.mem_iff.1 hp
    obtain ⟨h1, h2⟩ := List.mem_filter.1 this
    exact ⟨h1, (of_decide_eq_true h2).1⟩
  have hcnt : ps.length <= 1000000 := by
    have h1 := hperm.length_eq
    have h2 := List.length_filter_le (inPages name 0 65536) ((σ.caches un).map Prod.fst)
    have h3 := hG.cnt un hun
    simp at h2; omega
  have h3 := h2.pu hp3
  have hz3 := hf2.size
  have hz2 := hp3.size
  refine loopUp ps.length (fun k t w' => t.2 = (k : Int) /\ RowAt w' 3 1 t.1 ((rawOf σ un (ps.take k)).map iV) /\ (∀ b ∈ blkOf t.1, w3.heap.size <= b) /\ Pu w3 w') ⟨rfl, RowAt.nil _ _ _, by simp [blkOf], Pu.refl _⟩ ?_
  rintro k J ⟨s, t⟩ w4 hk ⟨ht, hrow4, hb4, hp4⟩ hJ
  obtain rfl : t = (k : Int) := ht
  have hrow4 : RowAt w4 3 1 s ((rawOf σ un (ps.take k)).map iV) := hrow4
  have hb4 : ∀ b ∈ blkOf s, w3.heap.size <= b := hb4
  dsimp only
  refine Br.of (fun hlt => ?_) (fun hge => ?_)
  · have hlt' : k < ps.length := by have := dtrue hlt; omega
    have hr4 := hrow.pu hp4
    have h4 := h3.pu hp4
    obtain ⟨p, hp⟩ : ∃ p, ps[k]? = some p := ⟨_, List.getElem?_eq_getElem hlt'⟩
    obtain ⟨g1, g2⟩ := flat_get ps hp
    obtain ⟨g, hga, hgc, hgb⟩ := hr4.base (fun e => by rw [e] at g1; simp at g1)
    have hpk := hps p (List.mem_of_getElem? hp)
    obtain ⟨nm, q⟩ := p
    obtain ⟨pg, hg⟩ := AL.get_isSome hpk.1
    have hq := hG.near un hun _ (AL.get_mem hg)
    simp only at hq
    have hpo : pageOf σ un (nm, q) = pg := by simp [pageOf, hg]
    refine ⟨⟨g, 0, none⟩, hga, by omega, by omega, nm, ?_, q, ?_, ?_⟩
    · rw [add_def, add_def]; rw [← hgc (k * 2) _ g1]; congr 2; omega
    · rw [add_def, add_def]; rw [← hgc (k * 2 + 1) _ g2]; congr 2; omega
    refine alE_intro fun w5 hw5 => ?_
    have hp5 : Pu w4 w5 := by rw [hw5]; exact Pu.alloc w4 _
    have hb5 : w5.heap[w4.heap.size]? = some (.cells #[.string ⟨#[]⟩, .int .i64 0] 92) := by rw [hw5]; exact alloc_new w4 _
    refine stA_fill hb5 (by rw [size66]; rfl) rfl rfl fun w6 hb6 hf6 hs6 => ?_
    have hP6 : Pu w4 w6 := hp5.andNew hf6 fun i hi => by omega
    refine dwE_intro fun w7 hp7 hh7 => ?_
    have hP7 := hP6.trans hp7
    have h7 := h4.pu hP7
    have hb7 := hp7.blk hb6
    have hlk := look_page h7 hun (nm, q)
    rw [hpo] at hlk
    refine ⟨by omega, by omega, some (d.c un), h7.cellC hun, nm, by rw [add_def, cell_blk hb7]; rfl, q, by rw [add_def, cell_blk hb7]; rfl, pg.cells, Page.size_cells _, hlk, ?_⟩
    have htk : ps.take (k + 1) = ps.take k ++ [(nm, q)] := by rw [List.take_add_one, hp]; rfl
    have hraw : rawOf σ un (ps.take (k + 1)) = rawOf σ un (ps.take k) ++ rawP pg q 32 := by
      rw [htk, rawOf, rawOf, List.flatMap_append]; simp [hpo]
    have hrl := rawOf_le σ un (ps.take k)
    rw [List.length_take, Nat.min_eq_left (by omega)] at hrl
    have hblt : w4.heap.size < w7.heap.size := blk_lt hb7
    refine loopUp 32 (fun j t w' => t.2 = (j : Int) /\ RowAt w' 3 1 t.1 ((rawOf σ un (ps.take k) ++ rawP pg q j).map iV) /\ (∀ b ∈ blkOf t.1, w3.heap.size <= b /\ b ≠ w4.heap.size) /\ Pu w3 w' /\ w'.heap[w4.heap.size]? = some (.cells #[.string nm, .int .i64 q] 92))
      ⟨rfl, by rw [rawP]; simp only [List.range_zero, List.filter_nil, List.map_nil, List.append_nil]; exact hrow4.pu hP7, fun b hb => ⟨hb4 b hb, fun e => by have := hrow4.lt b hb; omega⟩, hp4.trans hP7, hb7⟩ ?_
    rintro j J2 ⟨s8, t⟩ w8 hj ⟨ht, hrow8, hb8, hp8, hc8⟩ hJ2
    obtain rfl : t = (j : Int) := ht
    have hrow8 : RowAt w8 3 1 s8 ((rawOf σ un (ps.take k) ++ rawP pg q j).map iV) := hrow8
    have hb8 : ∀ b ∈ blkOf s8, w3.heap.size <= b /\ b ≠ w4.heap.size := hb8
    dsimp only
    have hrp := rawP_le pg q j
    have hs8 : s8.len = ((rawOf σ un (ps.take k) ++ rawP pg q j)).length := by have := hrow8.1; rw [List.length_map] at this; omega
    rw [List.length_append] at hs8
    refine Br.of (fun d1 => ?_) (fun d1 => ?_)
    · have hj32 : j < 32 := by have := dtrue d1; omega
      refine ⟨pg.di j, w8, index_bool hj32 (ext_di pg hj32), ?_⟩
      have hr1 : rawP pg q (j + 1) = rawP pg q j ++ if pg.di j then [q * 32 + (j : Int)] else [] := by
        rw [rawP, rawP, List.range_succ, List.filter_append, List.map_append]
        cases hdj : pg.di j <;> simp [hdj]
      refine Br.of (fun d2 => ?_) (fun d2 => ?_)
      · rw [ptrE_some]
        refine ⟨q, by rw [add_def, cell_blk hc8]; rfl, ?_⟩
        rw [wrap_in (n := q * 32) (by omega) (by omega), wrap_in (n := q * 32 + (j : Int)) (by omega) (by omega), wrap_in (n := (j : Int) + 1) (by omega) (by omega)]
        refine alE_intro fun w9 hw9 => ?_
        have hp9 : Pu w8 w9 := by rw [hw9]; exact Pu.alloc w8 _
        have hn9 : w9.heap[w8.heap.size]? = some (.cells #[.int .i64 (q * 32 + (j : Int))] 3) := by rw [hw9]; exact alloc_new w8 _
        obtain ⟨s', w10, hra, hrow10, hf10, hblk10, _⟩ := row_push (P := Tryz.prog) (ty := 74) u74 info3 rfl (hrow8.pu hp9) (a := ⟨w8.heap.size, 0, none⟩) (u := iV (q * 32 + (j : Int))) (by rw [cell_blk hn9]; rfl) rfl (by omega)
        refine ⟨s', w10, hra, ?_⟩
        have hz8 := hp8.size
        have hz9 := hp9.size
        have hc8l := blk_lt hc8
        refine hJ2 _ _ hj32 ⟨rfl, ?_, fun b hb => ?_, (hp8.trans hp9).andNew hf10 fun i hi => (hb8 i hi).1, hf10.blk (hp9.blk hc8) fun hx => (hb8 _ hx).2 rfl⟩
        · rw [hr1, d2, if_pos rfl, ← List.append_assoc, List.map_append]; exact hrow10
        · rcases hblk10 b hb with h5 | h5
          · exact hb8 b h5
          · exact ⟨by omega, by omega⟩
      · rw [wrap_in (by omega) (by omega)]
        refine hJ2 _ _ hj32 ⟨rfl, ?_, hb8, hp8, hc8⟩
        rw [hr1, d2]; simpa using hrow8
    · have hj32 : j = 32 := by have := dfalse d1; omega
      subst hj32
      show J _ _
      rw [wrap_in (by omega) (by omega)]
      exact hJ _ _ hlt' ⟨rfl, by rw [hraw]; exact hrow8, fun b hb => (hb8 b hb).1, hp8⟩
  · have hk : k = ps.length := by have := dfalse hge; omega
    subst hk
    rw [List.take_length] at hrow4
    have hrl := rawOf_le σ un ps
    refine Calls.mono (sortInts_c w4 s _ hrow4 (by omega)) ?_
    rintro e w5 ⟨rfl, hrow5, hf5⟩
    refine ⟨rfl, ?_⟩
    have hown : ∀ b ∈ d.own, ¬ b ∈ blkOf s := fun b hb hx => by have := hb4 b hx; have := h.lt b hb; omega
    have h5 := (h3.pu hp4).fr hf5 hown
    have hfr5 : Fr (· ∈ d.own) w w5 := (hf2'.trans (Fr.pu (hp3.trans hp4) : Fr (· ∈ d.own) w2 w4) fun i hi _ => hi).trans hf5 fun i hi hlt => by have := hb4 i hi; omega
    refine leave_left h5 hfr5 fun w' hL hfS => ⟨s, _, by rw [he], hL, hrow5.fr hfS fun b hb hx => hown _ (mem_S d) (by rw [show d.S = b from (show b = d.S from hx).symm]; exact hb), fun b hb => by have := hb4 b hb; omega, .inr ⟨he, ?_, ps, hperm, List.mergeSort_perm _ _⟩⟩
    have := List.pairwise_mergeSort (le := fun x y : Int => decide (x <= y)) (fun a b c h1 h2 => decide_eq_true (Int.le_trans (of_decide_eq_true h1) (of_decide_eq_true h2))) (fun a b => by
      rcases Int.le_total a b with h | h <;> simp [h]) (rawOf σ un ps)
    exact this.imp fun h => of_decide_eq_true h
end Go.Proofs.YtnigfiljenfgjaaGreat

/- The disk: the names of its files. -/
set_option maxRecDepth 100000
set_option linter.unusedVariables false
set_option linter.unusedSimpArgs false
namespace Go.Proofs.YtnigfiljenfgjaaGreat
open Go.Sh Go.RowKit
theorem listFiles_c {w : World} {d : Lay} {σ : Sys} (h : SysAt w d 0 σ) (hN : σ.files.length <= 1000) :
    Calls Tryz.prog 17 #[d.ptr] w fun e w' => ∃ l : SV, e = .returned (.slice l.a l.len l.cap) /\ Left w w' d d σ /\ RowAt w' 9 1 l (strV (srt (σ.files.map Prod.fst))) /\ ∀ b ∈ blkOf l, w.heap.size <= b := by
  refine F17_calls _ w _ ?_
  refine ⟨false, w, eqS_ptr_nil u23 _ _ _ w, Br.f rfl ?_⟩
  show Calls Tryz.prog 46 #[.pointer (some ⟨d.S, 0, none⟩)] w _
  refine Calls.mono (muLock (by rw [h.cellS]; rfl) (frozen_blk h.st 0)) ?_
  rintro e w1 ⟨rfl, hw1⟩
  have h1 : SysAt w1 d 1 σ := by rw [hw1]; exact h.setMu 1
  have hf1 : Fr (· = d.S) w w1 := by rw [hw1]; exact Fr.setCell w ⟨d.S, 0, none⟩ _
  refine ⟨rfl, some d.M, h1.cellM, ?_⟩
  have hkeys := FilesAt.keys h1.fl
  have hfl : d.fs.length = σ.files.length := by have := congrArg List.length hkeys; simpa using this
  refine F52_calls (some d.M) w1 _ ?_
  refine alE_intro fun w2 hw2 => ⟨_, rfl, ?_⟩
  have hs := sortedKeys_101 (ev := evS) w1 d.M d.fs h1.mp (by omega)
  rw [← hw2] at hs
  refine Calls.mono hs ?_
  rintro e w3 ⟨l, rfl, hrow, hnew, hp3⟩
  rw [hkeys] at hrow
  refine ⟨l, rfl, ?_⟩
  have h3 := h1.pu hp3
  have hz1 := hf1.size
  have hSlt := h.lt _ (mem_S d)
  have hfr : Fr (· ∈ d.own) w w3 := (hf1.mono fun i hi _ => by rw [show i = d.S from hi]; exact mem_S d : Fr (· ∈ d.own) w w1).trans (Fr.pu hp3 : Fr (· ∈ d.own) w1 w3) fun i hi _ => hi
  exact leave_left h3 hfr fun w' hL hfS => ⟨l, rfl, hL, hrow.fr hfS fun b hb hx => by have := hnew b hb; have hx : b = d.S := hx; omega, fun b hb => by have := hnew b hb; omega⟩
end Go.Proofs.YtnigfiljenfgjaaGreat
