import Derived.RangeFuncBox
import Derived.RangeFuncLeaves
import Derived.RangeFuncBound
import Derived.RangeFuncNested
import Derived.Shelf.Abstract
import Derived.WalkKit
import Derived.OwnWalkIn
import Derived.TacticsInMore
import Derived.LoopNIn
import Derived.LoopIn
import Derived.Maps.AppendAt
import Derived.Sort.MapsRangeIn
import Derived.Sort.OwnSortedInts
import Derived.Test.YtcihcbfcgjepfaaGreatDoorBfSortI
import Derived.Test.YtcihcbfcgjepfaaGreatDoorBfPrA
import Derived.Test.YtcihcbfcgjepfaaGreatDoorBfOwD
import Derived.Test.YtcihcbfcgjepfaaGreatDoorShSeventeen
import Derived.Test.YtcihcbfcgjepfaaGreatDoorBfOwB
import Derived.Test.YtcihcbfcgjepfaaGreatDoorShTwentyThree
/- The library's iterator over the keys of a map with keys of numbers, maps.Keys; slices.AppendSeq, Sort, Sorted of numbers. No condition but the reach's. -/
set_option maxRecDepth 100000
set_option linter.unusedVariables false
set_option linter.unusedSectionVars false
set_option linter.unusedSimpArgs false
namespace Go.Proofs.YtcihcbfcgjepfaaGreatDoor
open Go.RowKit Go.Shelf Go.Sh Go.Sort Tryz
attribute [local go_sem] Oper.semAt_some
abbrev yKz (n₀ : Nat) (A B : World) : Prop := Below n₀ A B /\ KeepsWalks A B
theorem zK6 {W W' : World} (h : KeepsOthers W W') : KeepsWalks W W' :=
 ⟨h.size, fun k o hk ho => h.same k o hk (Obj.not_cells_of_walk ho)⟩
theorem yKD : (prog.info? 3).map (fun i => (i.zero, i.size, i.bytes)) = some (some (.int .i64 0), 1, 8) := by kernel_rfl
set_option maxHeartbeats 2000000 in
theorem zVM (F : Fence) (n : Nat) (h11 : F.fn 201) (hro : F.round = none) (hn : 2 <= n) (g : Nat) (lb : Array Value) (hFg : F.fn g) (eg : ∀ args w, (callFunc g args).run prog w = .ok (.enter g args) w)
  (S Sp : List Int -> Prop) (N : Nat) (hN : N <= maxLen) (hNb : N * 16 <= 140737488355328) (n₀ : Nat) (w : World) (hn₀ : n₀ <= w.heap.size) (hseq : SeqStopsK F (n - 1) prog g lb (fun x : Int => #[zXp x]) (yKz n₀) S Sp N w) :
  CallsIn F n prog 201 #[.slice none 0 0, .func (.func g) #[] lb] w fun e W' => ∃ v xs, e = .returned v /\ S xs /\ W'.ownsRow w.heap.size 3 1 v xs.length (xs.map zXp) /\ Below w.heap.size w W' := by
 have h1 : 1 <= n := by omega
 obtain ⟨i0, hi, hz0, hz1, hz2⟩ := info_parts yKD
 refine callsIn_of_wp_marks Tryz.func201 rfl h11 ?_ hro
 simp only [Tryz.ntmps201, List.size_toArray, List.length_cons, List.length_nil, Nat.reduceAdd, Nat.reduceSub, Array.replicate_succ, Array.replicate_zero, List.push_toArray, List.append_toArray, List.nil_append, List.cons_append]
 gi_wp2
 have bO := Boxed.new w 43 (.slice none 0 0)
 have hB0 : Below w.heap.size w (w.alloc (.cells #[.slice none 0 0] 43)) := (Below.refl _ w).alloc (Nat.le_refl _) _
 refine wpIn_rangeFunc_ownG hro h1 (gf := g) (lb := lb) rfl hFg eg hseq (fun h k => ⟨h.1.trans k.1, h.2.trans k.2⟩) (fun W l o o' hl ho hc hw => ⟨belowK_b hn₀ W l o o' (by simp at hl; omega) ho hc hw, KeepsWalks.putObj o' ho hw⟩) hB0 (fun _ => rfl)
  (fun pre W => (∃ v, Boxed W w.heap.size 43 v /\ W.ownsRow w.heap.size 3 1 v pre.length (pre.map zXp) /\ True) /\ Below w.heap.size w W)
  (fun _ _ _ => False)
  (OwnFrom.and (Own.from (holdsRow_own w.heap.size w.heap.size 43 3 1 (fun (pre : List Int) => pre.length) (fun pre => pre.map zXp) (fun pre v => True)) _) (ownFrom_below (Nat.le_refl _) (by simp)))
  (fun _ _ _ _ _ hs _ _ => hs)
  ⟨⟨.slice none 0 0, bO, World.ownsRow_nil _ _ _ _, trivial⟩, hB0⟩
  (fun x => { tmps := #[.slice none 0 0, .func (.func g) #[] lb, .pointer (some ⟨w.heap.size, 0, none⟩), undef, .slice none 0 0, .int .i64 x, .func (.func g) #[] lb, .int .i64 x, undef, undef, undef, undef, undef], defers := [] }) ?assign ?body ?done ?stop
 case assign =>
  intro l x W K hK
  gi_wp2
  exact hK
 case body =>
  rintro l pre x W ⟨⟨v, hv, hrow, _⟩, hB⟩ hlt
  have hc := hv.cell
  gi_wp2_with (gi_at_builtin; refine wpListIn_append_own _ rfl _ _ 43 rfl w.heap.size 3 i0 (.int .i64 0) 1 8 Tryz.underlying43 hi hz0 hz1 hz2 rfl (by decide) _ _ _ rfl (hrow.alloc _) ⟨W.heap.size, 0, none⟩ 1 1 [.int .i64 x] rfl rfl (cell_one_new _ _ _) (by simp [Value.oneCell']) (by omega) (by omega) (by have := hB.size; simp; omega) ?_; intro v' w1 hown' hgrow _; obtain ⟨g', cap', rfl⟩ := ownsRow_succ hown'; obtain ⟨hv1, hv2, hr2, hk2, hb2⟩ := hv.appended (by decide) hrow hB.size (Nat.le_refl _) hown' hgrow; have hc1 := hv1.cell; have hf1 := hv1.frozen)
  exact ⟨hk2.from _, ⟨hb2.mono hn₀, zK6 hk2⟩, ⟨_, hv2, by simpa using hr2, trivial⟩, hB.trans hb2⟩
 case done =>
  rintro D ys W hD hS ⟨⟨v, hv, hrow, _⟩, hB⟩ hK
  have hc := hv.cell
  gi_wp2
  refine ⟨by simp, .inl ⟨_, _, rfl, run_takeDeferred hK, ?_⟩⟩
  exact ⟨_, results_tmp rfl _ _ _, v, ys, rfl, hS, ownsRow_putObj hrow _ hK rfl, hB.trans (belowK_b (w := w) (Nat.le_refl _) W D _ _ (by simp at hD; omega) hK rfl rfl)⟩
 case stop =>
  rintro D c pre W _ _ h _
  exact h.elim
theorem yJh {w : World} {b : Nat} {e : TypeId} {sz n : Nat} {s : SV} {vs : List Value} (h : w.ownsRow b e sz (.slice s.a s.len s.cap) n vs) (hn : n = s.len) : zQh w e sz s vs := by
 obtain ⟨h1, ⟨h2, h3⟩ | ⟨g, cap, cur, h2, h3, h4, h5, h6, h7, h8⟩⟩ := h
 ·simp only [Value.slice.injEq] at h2
  obtain ⟨e1, e2, e3⟩ := h2
  obtain ⟨a, l, c⟩ := s
  simp only at e1 e2 e3
  subst e1; subst e2; subst e3
  exact ⟨by rw [h1, hn], .inl rfl⟩
 ·simp only [Value.slice.injEq] at h2
  obtain ⟨e1, e2, e3⟩ := h2
  subst hn
  exact ⟨h1, .inr ⟨g, cur, e1, h4, by omega, by omega, by rw [e3]; exact h7, h8⟩⟩
theorem yXg (w : World) (s : SV) (l : List Int) (h : zQh w 3 1 s (l.map zXp)) (hl : l.length <= 140737488355328) :
  Calls prog 166 #[.slice s.a s.len s.cap] w fun e w' => e = .returned (.tuple #[]) /\ zQh w' 3 1 s ((l.mergeSort fun x y => decide (x <= y)).map zXp) /\ Fr (· ∈ zQa s) w w' := by
 have hlen : s.len = l.length := by have := h.1; simp at this; omega
 have hs := h
 obtain ⟨h1, rfl | ⟨g, cur, h3, h4, h5, h6, h7, h8⟩⟩ := h
 ·have hl0 : l = [] := List.eq_nil_of_length_eq_zero (by simpa using hlen.symm)
  subst hl0
  refine Calls.mono (Tryz.slices_Sort_int_none none 0 w) ?_
  rintro e w' ⟨rfl, rfl⟩
  exact ⟨rfl, by simpa using hs, Fr.refl _ _⟩
 ·have hcur : cur.toList.take l.length = l.map (Value.int .i64) := by
   rw [Nat.mul_one] at h8
   rw [← hlen, h8]
  have hH := holds_of_blockI h4 hcur
  have key := Tryz.slices_Sort_int g 0 s.cap l w hH (zQH h4) (by omega)
  rw [← hlen] at key
  rw [h3]
  refine Calls.mono key ?_
  rintro e w' ⟨rfl, n, os, rfl⟩
  refine ⟨rfl, ?_, ?_⟩
  ·have ho := ownsRow_sortedI (n := n) (os := os) (ts := l.mergeSort fun x y => decide (x <= y)) (ss := l) (by simp) (Nat.zero_le g) h4 (by omega) h6 h7
   rw [← hlen, ← h3] at ho
   exact yJh ho rfl
  ·have hg := grownBy_sortedI (w := w) (g := g) (n := n) (os := os) (l.mergeSort fun x y => decide (x <= y)).toArray
   exact ⟨hg.os, hg.tape, hg.output, hg.size, fun k hk hn => hg.block k hk fun e => hn (by cases e; simp [zQa, h3])⟩
abbrev srtI (l : List Int) : List Int := l.mergeSort fun x y => decide (x <= y)
theorem yQR {l l' : List Int} (h : l.Perm l') : srtI l = srtI l' := by
 have tr : ∀ a b c : Int, decide (a <= b) = true -> decide (b <= c) = true -> decide (a <= c) = true := fun a b c h k => by simp at h k ⊢; omega
 have tot : ∀ a b : Int, (decide (a <= b) || decide (b <= a)) = true := fun a b => by simp; omega
 exact List.Perm.eq_of_pairwise (le := fun a b => decide (a <= b) = true) (fun a b _ _ h k => by simp at h k; omega) (List.pairwise_mergeSort tr tot l) (List.pairwise_mergeSort tr tot l') (((List.mergeSort_perm l _).trans h).trans (List.mergeSort_perm l' _).symm)
theorem zYv {w : World} {b : Nat} {e : TypeId} {sz n : Nat} {s : SV} {vs : List Value} (h : w.ownsRow b e sz (.slice s.a s.len s.cap) n vs) (hn : n = s.len) : zQh w e sz s vs /\ ∀ k ∈ zQa s, b <= k := by
 obtain ⟨h1, ⟨h2, h3⟩ | ⟨g, cap, cur, h2, h3, h4, h5, h6, h7, h8⟩⟩ := h
 ·simp only [Value.slice.injEq] at h2
  obtain ⟨e1, e2, e3⟩ := h2
  obtain ⟨a, l, c⟩ := s
  simp only at e1 e2 e3
  subst e1 e2 e3
  exact ⟨⟨by rw [h1, hn], .inl rfl⟩, fun k hk => by simp [zQa] at hk⟩
 ·simp only [Value.slice.injEq] at h2
  obtain ⟨e1, e2, e3⟩ := h2
  subst hn
  rw [← e3] at h5 h6 h7
  exact ⟨⟨h1, .inr ⟨g, cur, e1, h4, h5, h6, h7, h8⟩⟩, fun k hk => by simp [zQa, e1] at hk; omega⟩
theorem yZ4 (g : Nat) (lb : Array Value) (eg : ∀ args w, (callFunc g args).run prog w = .ok (.enter g args) w) (S Sp : List Int -> Prop) (N : Nat) (hN : N <= 8796093022208) (w : World)
  (hS : ∀ xs, S xs -> xs.length <= N) (hseq : SeqStopsK Fence.wide 9 prog g lb (fun x : Int => #[zXp x]) (yKz w.heap.size) S Sp N w) :
  Calls prog 128 #[.func (.func g) #[] lb] w fun e w' => ∃ (s : SV) (xs : List Int), e = .returned (.slice s.a s.len s.cap) /\ S xs /\ zQh w' 3 1 s ((srtI xs).map zXp) /\ (∀ k ∈ zQa s, w.heap.size <= k) /\ Pu w w' := by
 refine yXw _ w _ ?_
 refine yQH _ w _ ?_
 have happ := callsIn_wide.1 (zVM Fence.wide 10 trivial rfl (by omega) g lb trivial eg S Sp N (by unfold maxLen; omega) (by omega) w.heap.size w (Nat.le_refl _) hseq)
 refine Calls.mono happ ?_
 rintro e w1 ⟨v, xs, rfl, hxs, hown, hB⟩
 obtain ⟨s, rfl, hn⟩ : ∃ s : SV, v = .slice s.a s.len s.cap /\ xs.length = s.len := by
  rcases hown.2 with ⟨e1, e2⟩ | ⟨g', cap, cur, e1, _⟩
  ·exact ⟨⟨none, 0, 0⟩, e1, e2⟩
  ·exact ⟨⟨some ⟨g', 0, none⟩, xs.length, cap⟩, e1, rfl⟩
 obtain ⟨hrow, hfresh⟩ := zYv hown hn
 refine ⟨s, rfl, s, rfl, ?_⟩
 refine Calls.mono (yXg w1 s xs hrow (by have := hS xs hxs; omega)) ?_
 rintro e w2 ⟨rfl, hrow2, hf2⟩
 exact ⟨rfl, s, xs, rfl, hxs, hrow2, hfresh, Pu.andNew hB hf2 hfresh⟩
section
variable {κ ν : Type} [DecidableEq κ] {ek : κ -> Value} {ev : ν -> Value} {P : Program} {F : Fence} {n : Nat} {ops : Array Oper} {Q : Exit -> Act -> World -> Prop} {zQ1 : List Oper} {a : Act} {w : World} {o : Oper}
def yJ8 (r b : Nat) (w : World) : Nat := match w.heap[r]?, w.heap[b]? with
 | some (.mapIter _ _ seen _), some (.map es _) => (leftOf es seen).size
 | _, _ => 0
theorem zVY {r b : Nat} {l todo : List (κ × ν)} (h : zQD w ek ev r b l todo) : yJ8 r b w = todo.length := by
 obtain ⟨es, clk, since, seen, c0, h1, h2, _, _, _, h6, _⟩ := h
 have := h6.length
 rw [Array.length_toList] at this
 simp only [yJ8, h1, h2, this]
theorem yXt {w' : World} {r b : Nat} {l todo : List (κ × ν)} (h : zQD w ek ev r b l todo) (hk : KeepsWalks w w') (hb : w'.heap[b]? = w.heap[b]?) : zQD w' ek ev r b l todo := by
 obtain ⟨es, clk, since, seen, c0, h1, h2, h3⟩ := h
 exact ⟨es, clk, since, seen, c0, hk.same r _ h1 rfl, hb.trans h2, h3⟩
theorem yKe {r b : Nat} {l todo : List (κ × ν)} (h : zQD w ek ev r b l todo) : ∃ o : Obj, w.heap[r]? = some o /\ o.isWalk = true := by
 obtain ⟨es, clk, since, seen, c0, h1, _⟩ := h
 exact ⟨_, h1, rfl⟩
theorem zYC {w' : World} {r : Nat} (h : Fr (· = r) w w') : w.grownBy w' (some r) := ⟨h.os, h.tape, h.output, h.size, fun k hk hn => h.block k hk fun e => hn (by rw [e])⟩
theorem zYr {w' : World} (h : Pu w w') : w.grownBy w' none := ⟨h.os, h.tape, h.output, h.size, fun k hk _ => h.block k hk⟩
theorem zJZ (hg : o.guard = none) (m : Operand) (t kt e : TypeId) (hop : o.op = Op.range t m) (ht : P.underlying t = some (.map kt e)) (b : Nat) (l : List (κ × ν)) (hm : a.eval m = .map (some b)) (h : zQ3 w ek ev b l)
  (hK : ∀ w', zQD w' ek ev w.heap.size b l l -> Pu w w' -> w'.heap.size = w.heap.size + 1 -> wpListIn F n P ops Q zQ1 (a.put o.dst (.pointer (some ⟨w.heap.size, 0, none⟩))) w') : wpListIn F n P ops Q (o :: zQ1) a w := by
 refine wpListIn_plain hg fun K' hK' => ?_
 obtain ⟨w', hrun, r1, r2, r3⟩ := h.range ht
 unfold Oper.wpIn
 refine ⟨?_, ?_⟩
 ·simp [Oper.about, hop]
 ·rw [Oper.semAt_plain F _ _ (by rw [hop]; intro c hc'; cases hc')]
  simp [execOp, hop, hm, hrun, Result.andThen]
  exact hK' _ _ (hK w' r1 r2 r3)
theorem zKu (hg : o.guard = none) (it : Operand) (hop : o.op = Op.next it false) (b r : Nat) (l todo : List (κ × ν)) (hit : a.eval it = .pointer (some ⟨r, 0, none⟩)) (h : zQD w ek ev r b l todo)
  (hDone : todo = [] -> wpListIn F n P ops Q zQ1 (a.put o.dst (.tuple #[.bool false])) w)
  (hMore : ∀ p w', p ∈ todo -> Fr (· = r) w w' -> w'.heap.size = w.heap.size -> zQD w' ek ev r b l (AL.del todo p.1) -> (Instr.entry (.pointer (some ⟨r, 0, none⟩))).run P w' = .ok (.tuple #[ek p.1, ev p.2]) w' -> wpListIn F n P ops Q zQ1 (a.put o.dst (.tuple #[.bool true, ek p.1, ev p.2])) w') :
  wpListIn F n P ops Q (o :: zQ1) a w := by
 refine wpListIn_plain hg fun K' hK' => ?_
 unfold Oper.wpIn
 refine ⟨by simp [Oper.about, hop], ?_⟩
 rw [Oper.semAt_plain F _ _ (by rw [hop]; intro c hc'; cases hc')]
 rcases zQD.next (P := P) h o.type with ⟨h0, hrun⟩ | ⟨p, hp, w', hrun, hf, hs, hI, hen⟩
 ·simp [execOp, hop, hit, hrun, Result.andThen]
  exact hK' _ _ (hDone h0)
 ·simp [execOp, hop, hit, hrun, Result.andThen]
  exact hK' _ _ (hMore p w' hp hf hs hI hen)
end
theorem zYR : ∃ e, prog.underlying 88 = some (.map 3 e) := ⟨133, by kernel_rfl⟩
set_option maxHeartbeats 2000000 in
theorem zVT {ν : Type} {ev : ν -> Value} (F : Fence) (n : Nat) (h10 : F.fn 167) (hro : F.round = none) (hn : 1 <= n) (l Bs n₀ b : Nat) (L : List (Int × ν)) (hb : b < n₀) (J Jx : List Int -> World -> Prop)
  (W : World) (hn₀ : n₀ <= W.heap.size) (hJ : AbidesFrom W.heap.size J)
  (hY : ∀ pre x W1, J pre W1 -> pre.length < L.length -> YieldAt F (n - 1) prog l #[.int .i64 x] W1 fun e W' =>
   (e = .returned (.bool true) /\ J (pre ++ [x]) W' /\ yKz n₀ W1 W') ∨ (e = .returned (.bool false) /\ Jx (pre ++ [x]) W'))
  (hBs : W.cell? ⟨Bs, 0, none⟩ = some (.map (some b))) (hM : zQ3 W zXp ev b L) (h0 : J [] W) :
  CallsIn F n prog 167 #[.func (.yield l) #[] #[], .pointer (some ⟨Bs, 0, none⟩)] W fun e W' => (∃ v, e = .returned v) /\
   ((∃ ys, ys.Perm (L.map Prod.fst) /\ J ys W') ∨ (∃ pre, True /\ Jx pre W')) := by
 obtain ⟨et, hund⟩ := zYR
 refine callsIn_of_wp Tryz.func167 rfl h10 ?_ hro
 simp only [Tryz.ntmps167, List.size_toArray, List.length_cons, List.length_nil, Nat.reduceAdd, Nat.reduceSub, Array.replicate_succ, Array.replicate_zero, List.push_toArray, List.append_toArray, List.nil_append, List.cons_append]
 gi_wp2_with (first
  | (gi_at_range; refine zJZ rfl _ 88 3 et rfl hund b L rfl hM ?_; intro w0 hI0 hp0 hs0)
  | gi_in)
 go_frame
 gi_loopw [3] (fun _ wr => ∃ (todo : List (Int × ν)) (ss : List Int), zQD wr zXp ev W.heap.size b L todo /\ (ss ++ todo.map Prod.fst).Perm (L.map Prod.fst) /\ J ss wr /\ n₀ <= wr.heap.size)
  (fun _ wr => yJ8 W.heap.size b wr)
 case atStart =>
  exact ⟨L, [], hI0, by simp, hJ [] W w0 none h0 (zYr hp0) (fun r e => by cases e), by omega⟩
 case round =>
  obtain ⟨todo, ss, hI, hperm, hJs, hnr⟩ := hrel
  gi_wp2_with (first
   | (gi_at_next; refine zKu rfl _ rfl b W.heap.size L todo rfl hI ?_ ?_)
   | gi_in)
  ·intro ht0
   subst ht0
   gi_wp2
   go_end0
   exact ⟨⟨_, rfl⟩, .inl ⟨ss, by simpa using hperm, hJs⟩⟩
  ·intro x c w2 hp hf hs hI2 hen
   have hJ2 : J ss w2 := hJ ss wr w2 (some W.heap.size) hJs (zYC hf) (fun r e => by cases e; exact ⟨Nat.le_refl _, yKe hI⟩)
   have hpd := AL.perm_del hp hI.nodup
   have hlen : ss.length < L.length := by
    have h1 := hperm.length_eq
    have h2 := hpd.length_eq
    simp at h1 h2
    omega
   obtain ⟨fn, tmps, assign, body, hy, hR⟩ := hY ss x w2 hJ2 hlen
   have hleft := zVY hI
   clear hs
   gi_wp2
   refine hR.mono ?_
   rintro e W3 (⟨rfl, hJ3, hB3, hK3⟩ | ⟨rfl, hJx3⟩)
   ·gi_wp2
    have hI3 := yXt hI2 hK3 (hB3.block b hb)
    go_roundw
    case rel =>
     refine ⟨_, ss ++ [x], hI3, ?_, hJ3, by have := hf.size; have := hB3.size; omega⟩
     have h3 := hpd.map Prod.fst
     rw [List.append_assoc]
     exact ((List.Perm.append_left ss h3).symm).trans hperm
    case measure =>
     have h1 := zVY hI3
     have h2 := hpd.length_eq
     simp at h2
     omega
   ·gi_wp2
    refine bodyPost_ret (results_none rfl _ _ _) rfl ?_
    exact ⟨⟨_, rfl⟩, .inr ⟨ss ++ [x], trivial, hJx3⟩⟩
theorem zWh {ν : Type} {ev : ν -> Value} (F : Fence) (n : Nat) (h10 : F.fn 167) (hro : F.round = none) (hn : 1 <= n) (Bs b : Nat) (L : List (Int × ν)) (w : World) (hBs : Bs < w.heap.size)
  (hc : w.cell? ⟨Bs, 0, none⟩ = some (.map (some b))) (hM : zQ3 w zXp ev b L) :
  SeqStopsK F n prog 167 #[.pointer (some ⟨Bs, 0, none⟩)] (fun x : Int => #[zXp x]) (yKz w.heap.size) (fun ys => ys.Perm (L.map Prod.fst)) (fun _ => True) L.length w := fun l J Jx W hW hJ _ hY h0 => by
 have hM' : zQ3 W zXp ev b L := by
  have hbl := hM.lt
  obtain ⟨es, clk, h1, h2⟩ := hM
  exact ⟨es, clk, (hW.block b hbl).trans h1, h2⟩
 exact zVT F n h10 hro hn l Bs w.heap.size b L hM.lt J Jx W hW.size hJ hY ((hW.cell (p := ⟨Bs, 0, none⟩) hBs).trans hc) hM' h0
theorem zWj {ν : Type} {ev : ν -> Value} (w0 : World) (b : Nat) (L : List (Int × ν)) (hM : zQ3 w0 zXp ev b L) (hN : L.length <= 8796093022208) :
  Calls prog 128 #[.func (.func 167) #[] #[.pointer (some ⟨w0.heap.size, 0, none⟩)]] (w0.alloc (.cells #[.map (some b)] 88)) fun e w' => ∃ s' : SV, e = .returned (.slice s'.a s'.len s'.cap) /\ zQh w' 3 1 s' ((srtI (L.map Prod.fst)).map zXp) /\ (∀ k ∈ zQa s', w0.heap.size < k) /\ Pu w0 w' := by
 obtain ⟨w, hw⟩ : ∃ w, w = w0.alloc (.cells #[.map (some b)] 88) := ⟨_, rfl⟩
 have hp : Pu w0 w := by rw [hw]; exact Pu.alloc w0 _
 have hsz : w.heap.size = w0.heap.size + 1 := by rw [hw]; simp
 have hb : w.heap[w0.heap.size]? = some (.cells #[.map (some b)] 88) := by rw [hw]; exact zXj w0 _
 rw [← hw]
 have hseq := zWh Fence.wide 9 trivial rfl (by omega) w0.heap.size b L w (by omega) (by rw [zQs hb]; rfl) (hM.pu hp)
 refine Calls.mono (yZ4 167 #[.pointer (some ⟨w0.heap.size, 0, none⟩)] (enters_of Tryz.func167 (by kernel_rfl) rfl) _ _ L.length hN w (fun xs h => by have := h.length_eq; simp at this; omega) hseq) ?_
 rintro e w' ⟨s', xs, rfl, hxs, hrow, hf, hp'⟩
 rw [yQR hxs] at hrow
 exact ⟨s', rfl, hrow, fun k hk => by have := hf k hk; omega, hp.trans hp'⟩
end Go.Proofs.YtcihcbfcgjepfaaGreatDoor
/- Table: in which records two tables differ; the law on it. No condition. -/
namespace Go.Proofs.YtcihcbfcgjepfaaGreatDoor
open Go.Sh Go.RowKit Tryz
theorem yK4 : zKV prog 38 [.str, .int .i64, .int .i64, .bool] = true := by kernel_rfl
theorem yYH : prog.eqGuardType prog.depth 38 = false := by kernel_rfl
theorem yZp : zKV prog 28 [.int .i64, .int .i64, .str] = true := by kernel_rfl
theorem yWn {a b : Fld} (h : zVm a = zVm b) : a = b := by
 obtain ⟨a1, a2, a3, a4⟩ := a; obtain ⟨b1, b2, b3, b4⟩ := b
 simp [zVm] at h; simp [h]
theorem neFld (x y : Operand) (a b : Fld) (w : World) : (eqS .neq 38 x y (yXP a) (yXP b)).run prog w = .ok (.bool (!decide (a = b))) w := by
 refine yQx (ks := [.str, .int .i64, .int .i64, .bool]) (xs := zVm a) (ys := zVm b) yK4 yYH rfl rfl ?_ w
 rw [decide_eq_true_iff]
 exact ⟨fun h => by rw [h], yWn⟩
theorem yKA (x y : Operand) (a b : Val) (w : World) : (eqS .neq 28 x y (zKq a) (zKq b)).run prog w = .ok (.bool (!decide (a = b))) w := by
 refine yQx (ks := [.int .i64, .int .i64, .str]) (xs := zXO a) (ys := zXO b) yZp yJu rfl rfl ?_ w
 rw [decide_eq_true_iff]
 exact ⟨fun h => by rw [h], zYX⟩
structure RdF (w : World) (s : SV) (l : List Fld) : Prop where
 len : s.len = l.length
 lim : l.length <= 140737488355328
 get : ∀ i f, l[i]? = some f -> ∃ a, s.a = some a /\ w.cell? ((a.add (i * 4)).add 0) = some (.string f.name) /\ w.cell? ((a.add (i * 4)).add 1) = some (.int .i64 f.kind) /\ w.cell? ((a.add (i * 4)).add 2) = some (.int .i64 f.width) /\ w.cell? ((a.add (i * 4)).add 3) = some (.bool f.null)
theorem RdF.pu {w w' : World} {s : SV} {l : List Fld} (h : RdF w s l) (hp : Pu w w') : RdF w' s l := ⟨h.len, h.lim, fun i v hv => by
 obtain ⟨a, h1, h2, h3, h4, h5⟩ := h.get i v hv
 exact ⟨a, h1, hp.cell h2, hp.cell h3, hp.cell h4, hp.cell h5⟩⟩
theorem RdF.of {w : World} {s : SV} {l : List Fld} (h : zXH w s l) : RdF w s l := ⟨h.len, by have := h.lim; have := h.len; omega, fun i v hv => by
 obtain ⟨a, h1, _, _, _, _, h2, h3, h4, h5⟩ := zJf h hv
 exact ⟨a, h1, h2, h3, h4, h5⟩⟩
theorem yKH {α : Type} {a b : List α} {k : Nat} {x y : α} (hx : a[k]? = some x) (hy : b[k]? = some y) (h : x ≠ y) : a ≠ b := fun e => by
 subst e; rw [hx] at hy; cases hy; exact h rfl
theorem zVr {w : World} {s t : SV} {a b : List Fld} (ha : RdF w s a) (hb : RdF w t b) : Calls prog 59 #[.slice s.a s.len s.cap, .slice t.a t.len t.cap] w fun e w' => e = .returned (.bool (decide (a = b))) /\ Pu w w' := by
 refine yJJ _ _ w _ ?_
 have hla := ha.len
 have hlb := hb.len
 have hlim := ha.lim
 refine Br.of (fun d => ⟨by rw [decide_eq_false (fun e => zQ5 d (by rw [hla, hlb, e]))], Pu.refl _⟩) (fun d => ?_)
 have hab : a.length = b.length := by have := zQv d; omega
 refine zQ8 a.length (fun k t w' => t = (k : Int) /\ a.take k = b.take k /\ Pu w w') ⟨rfl, by simp, Pu.refl _⟩ ?_
 rintro k J t w2 hk ⟨ht, he, hp⟩ hJ
 obtain rfl : t = (k : Int) := ht
 refine Br.of (fun d1 => zQl fun w3 hp3 _ => ?_) (fun d1 => ?_)
 ·have hk2 : k < a.length := by have := zQn d1; omega
  obtain ⟨x, hx⟩ := zXD hk2
  obtain ⟨y, hy⟩ := zXD (show k < b.length by omega)
  obtain ⟨p, hpa, c0, c1, c2, c3⟩ := ((ha.pu hp).pu hp3).get k x hx
  obtain ⟨q, hqa, e0, e1, e2, e3⟩ := ((hb.pu hp).pu hp3).get k y hy
  refine ⟨p, hpa, by omega, by omega, _, c0, _, c1, _, c2, _, c3, q, hqa, by omega, by omega, _, e0, _, e1, _, e2, _, e3, _, fun w => neFld _ _ x y w, Br.of (fun d2 => ⟨?_, hp.trans hp3⟩) (fun d2 => ?_)⟩
  ·rw [decide_eq_false (yKH hx hy (by simpa using d2))]
  ·rw [zQe (by omega) (by omega)]
   exact hJ _ _ hk2 ⟨by omega, zKa he hx hy (by simpa using d2), hp.trans hp3⟩
 ·have hk2 : k = a.length := by have := zQg d1; omega
  subst hk2
  rw [List.take_length, hab, List.take_length] at he
  exact ⟨by rw [decide_eq_true he], hp⟩
theorem rec_eq {x y : Rec} : (x = y) ↔ (x.gone = y.gone /\ x.v = y.v) := by
 obtain ⟨a, b⟩ := x; obtain ⟨c, d⟩ := y; simp
end Go.Proofs.YtcihcbfcgjepfaaGreatDoor
/- Desks: which changes clash. No condition but those stated. -/
namespace Go.Proofs.YtcihcbfcgjepfaaGreatDoor
open Go.Sh Go.RowKit Tryz
variable {w w' : World} {d d' : zQq} {val : Nat -> List Val} {mu : Int}
theorem zYl (a b c : Bool) (w : World) : Calls prog 199 #[.bool a, .bool b, .bool c] w fun e w' => e = .returned (.bool (zVA a b c)) /\ w' = w := by
 refine yQ4 _ _ _ w _ ?_
 cases a <;> cases b <;> cases c <;> exact ⟨rfl, rfl⟩
theorem yXy (a b c : Val) (w : World) : Calls prog 200 #[zKq a, zKq b, zKq c] w fun e w' => e = .returned (.bool (zKc a b c)) /\ Pu w w' := by
 refine yXx _ _ _ _ _ _ _ _ _ w _ (alB fun w1 hp1 hb1 => alB fun w2 hp2 hb2 => alB fun w3 hp3 hb3 => ?_)
 have q1 := hp3.blk (hp2.blk hb1)
 have q2 := hp3.blk hb2
 have hp := (hp1.trans hp2).trans hp3
 refine ⟨_, cl q1 0, _, cl q1 1, _, cl q1 2, _, cl q2 0, _, cl q2 1, _, cl q2 2, _, w3, yKA _ _ a b w3, Br.of (fun d1 => ?_) (fun d1 => ?_)⟩
 ·refine ⟨_, cl hb3 0, _, cl hb3 1, _, cl hb3 2, _, cl q1 0, _, cl q1 1, _, cl q1 2, _, w3, yKA _ _ c a w3, Br.of (fun d2 => ?_) (fun d2 => ?_)⟩
  ·exact ⟨_, cl hb3 0, _, cl hb3 1, _, cl hb3 2, _, cl q2 0, _, cl q2 1, _, cl q2 2, _, w3, yKA _ _ c b w3, by rw [zKc, d1, d2]; rfl, hp⟩
  ·exact ⟨by rw [zKc, d1, d2]; rfl, hp⟩
 ·exact ⟨by rw [zKc, d1]; rfl, hp⟩
theorem yJZ {g1 g2 g3 : Bool} {s1 s2 s3 : SV} {a b c : List Val} (ha : RdV w s1 a) (hb : RdV w s2 b) (hc : RdV w s3 c) (e1 : a.length = b.length) (e2 : c.length = b.length) :
  Calls prog 162 #[.agg #[.bool g1, .slice s1.a s1.len s1.cap, .bool g2, .slice s2.a s2.len s2.cap], .agg #[.bool g3, .slice s3.a s3.len s3.cap]] w fun e w' => e = .returned (.bool (zV5 (⟨g1, a⟩, ⟨g2, b⟩) ⟨g3, c⟩)) /\ Pu w w' := by
 refine yXo _ _ _ _ _ _ w _ (alB fun w1 hp1 hb1 => alB fun w2 hp2 hb2 => ?_)
 have q1 := hp2.blk hb1
 have hp := hp1.trans hp2
 refine ⟨_, cl0 q1, _, cl q1 2, _, cl0 hb2, (zYl g1 g2 g3 w2).mono ?_⟩
 rintro e w3 ⟨rfl, rfl⟩
 refine ⟨_, rfl, Br.of (fun d0 => ?_) (fun d0 => ?_)⟩
 ·rw [zZA] at d0; cases d0
 refine ⟨s2, by rw [zQf, zQf, zQs q1]; rfl, ?_⟩
 have hla := ha.len
 have hlb := hb.len
 have hlc := hc.len
 have hlim := hb.lim
 have eR : zV5 (⟨g1, a⟩, ⟨g2, b⟩) ⟨g3, c⟩ = zZ6 a b c := by show (zVA g1 g2 g3 || zZ6 a b c) = _; rw [zZA, Bool.false_or]
 rw [eR]
 refine zQ8 b.length (fun k t w' => t = (k : Int) /\ zZ6 a b c = zZ6 (a.drop k) (b.drop k) (c.drop k) /\ Pu w3 w') ⟨rfl, by simp, Pu.refl _⟩ ?_
 rintro k J t w4 hk ⟨ht, he, hp4⟩ hJ
 obtain rfl : t = (k : Int) := ht
 refine Br.of (fun d1 => ?_) (fun d1 => ?_)
 ·have hk2 : k < b.length := by have := zQn d1; omega
  obtain ⟨x, hx⟩ := zXD hk2
  obtain ⟨y, hy⟩ := zXD (show k < a.length by omega)
  obtain ⟨z, hz⟩ := zXD (show k < c.length by omega)
  obtain ⟨p, hpa, c0, c1, c2⟩ := ((hb.pu hp).pu hp4).get k x hx
  refine ⟨p, hpa, by omega, by omega, _, c0, _, c1, _, c2, alB fun w5 hp5 hb5 => zQy hb5 yKr.symm rfl rfl fun w6 hb6 hf6 _ => zQl fun w7 hp7 _ => ?_⟩
  have hp46 : Pu w4 w6 := hp5.andNew hf6 fun i hi => by rw [show i = w4.heap.size from hi]; exact Nat.le_refl _
  have hp47 := hp46.trans hp7
  have hp27 := hp4.trans hp47
  have hb7 := hp7.blk hb6
  obtain ⟨q, hqa, f0, f1, f2⟩ := ((ha.pu hp).pu hp27).get k y hy
  obtain ⟨r, hra, i0, i1, i2⟩ := ((hc.pu hp).pu hp27).get k z hz
  refine ⟨s1, cl (hp27.blk q1) 1, q, hqa, by omega, by omega, _, f0, _, f1, _, f2, _, cl hb7 0, _, cl hb7 1, _, cl hb7 2, s3, cl (hp27.blk hb2) 1, r, hra, by omega, by omega, _, i0, _, i1, _, i2, (yXy y x z w7).mono ?_⟩
  rintro e w8 ⟨rfl, hp8⟩
  have ed : zZ6 a b c = (zKc y x z || zZ6 (a.drop (k + 1)) (b.drop (k + 1)) (c.drop (k + 1))) := by rw [he, zVc hx, zVc hy, zVc hz]; rfl
  refine ⟨_, rfl, Br.of (fun d2 => ?_) (fun d2 => ?_)⟩
  ·exact ⟨by rw [ed, d2]; rfl, (hp.trans hp27).trans hp8⟩
  ·rw [zQe (by omega) (by omega)]
   exact hJ _ _ hk2 ⟨by omega, by rw [ed, d2, Bool.false_or], hp27.trans hp8⟩
 ·have hk2 : k = b.length := by have := zQg d1; omega
  refine ⟨?_, hp.trans hp4⟩
  rw [he, List.drop_eq_nil_of_le (show b.length <= k by omega)]
  have : zZ6 (a.drop k) [] (c.drop k) = false := by cases a.drop k <;> rfl
  rw [this]
theorem yZV {σ : Dsk} (h : Inv σ) {u : Nat} (hu : u < 4) : srtI ((σ.us u).ch.map Prod.fst) = (zWi σ u).map fun (i : Nat) => (i : Int) + 1 := by
 have tr : ∀ a b c : Int, decide (a <= b) = true -> decide (b <= c) = true -> decide (a <= c) = true := fun a b c h k => by simp at h k ⊢; omega
 have tot : ∀ a b : Int, (decide (a <= b) || decide (b <= a)) = true := fun a b => by simp; omega
 have pw : ((zWi σ u).map fun (i : Nat) => (i : Int) + 1).Pairwise fun a b => decide (a <= b) = true := by
  refine List.pairwise_map.2 (List.Pairwise.imp (R := fun a b => a < b) (fun {a b} hab => by simp; omega) ?_)
  exact (List.pairwise_lt_range).filter _
 have nd2 : ((zWi σ u).map fun (i : Nat) => (i : Int) + 1).Nodup := by
  refine List.pairwise_map.2 (List.Pairwise.imp (R := fun a b => a < b) (fun {a b} hab => by omega) ?_)
  exact (List.pairwise_lt_range).filter _
 refine List.Perm.eq_of_pairwise (le := fun a b => decide (a <= b) = true) (fun a b _ _ h k => by simp at h k; omega) (List.pairwise_mergeSort tr tot _) pw ((List.mergeSort_perm _ _).trans ?_)
 refine (List.perm_ext_iff_of_nodup (h.cn u hu) nd2).2 fun k => ?_
 constructor
 ·intro hk
  obtain ⟨c, hc, rfl⟩ := List.mem_map.1 hk
  have hr := (h.gc u hu c hc).2
  refine List.mem_map.2 ⟨(c.1 - 1).toNat, List.mem_filter.2 ⟨List.mem_range.2 (by omega), ?_⟩, by omega⟩
  rw [show (((c.1 - 1).toNat : Nat) : Int) + 1 = c.1 by omega, AL.get_of_mem (h.cn u hu) (v := c.2) hc]; rfl
 ·intro hk
  obtain ⟨i, hi, rfl⟩ := List.mem_map.1 hk
  obtain ⟨_, h2⟩ := List.mem_filter.1 hi
  obtain ⟨c, hc⟩ := Option.isSome_iff_exists.1 h2
  exact List.mem_map.2 ⟨_, AL.get_mem hc, rfl⟩
theorem yKY {b : Nat} {l : List Chg} (h : zQ3 w zXp chV b l) (k : Int) : (Instr.lookup 88 (.map (some b)) (.int .i64 k) false).run prog w = .ok (chV (chG l k)) w := by
 have := h.look (P := prog) (t := 88) (kt := 3) (e := 133) yQY yYz (z := .agg #[.bool false, .slice none 0 0, .bool false, .slice none 0 0]) (Tryz.zeroValue133 w) k false
 rw [show (.int .i64 k : Value) = zXp k from rfl, this]
 unfold chG
 cases AL.get l k <;> rfl
def zKl (σ : Dsk) (u : Nat) (k : Int) : Bool := match AL.get (σ.us u).ch k with
 | some c => zV5 c (zJJ σ k)
 | none => false
theorem zWU (σ : Dsk) (u : Nat) : (zJA σ u).map (fun (i : Nat) => (i : Int) + 1) = ((zWi σ u).map fun (i : Nat) => (i : Int) + 1).filter (zKl σ u) := by
 rw [List.filter_map, zWi, List.filter_filter, zJA]
 congr 1
 refine List.filter_congr fun i _ => ?_
 show _ = (zKl σ u ((i : Int) + 1) && _)
 unfold zKl
 cases AL.get (σ.us u).ch ((i : Int) + 1) <;> simp
theorem yQU (h : zQb w d 1 val) (hI : Inv (zQc d val)) {u : Nat} (hu : u < 4) :
  Calls prog 114 #[d.ptr, .pointer (some (uA d u))] w fun e w' => ∃ q : SV, e = .returned (.slice q.a q.len q.cap) /\ zJb w w' q ((zJA (zQc d val) u).map fun (i : Nat) => (i : Int) + 1) /\ Pu w w' := by
 refine yXC _ _ w _ ⟨some (d.C u), h.uCh hu, ?_⟩
 refine yXr _ w _ (zX8 fun w1 hw1 => ?_)
 refine ⟨_, rfl, ?_⟩
 have hl3 := hI.chl hu
 have hr3 := hI.rh
 have hrl := h.rs_len
 have hkeys := zWj w (d.C u) (d.ch u) (h.mp hu) (by omega)
 rw [← hw1] at hkeys
 refine hkeys.mono ?_
 rintro e w2 ⟨q, rfl, hq, hfresh, hp2⟩
 have eK : srtI ((d.ch u).map Prod.fst) = (zWi (zQc d val) u).map fun (i : Nat) => (i : Int) + 1 := by
  rw [← yZV hI hu]
  congr 1
  show _ = ((d.ch u).map (toC val)).map Prod.fst
  rw [List.map_map]; rfl
 rw [eK] at hq
 rw [zWU]
 have hmem : ∀ k ∈ (zWi (zQc d val) u).map (fun (i : Nat) => (i : Int) + 1), ∃ c, AL.get (d.ch u) k = some c := fun k hk => by
  obtain ⟨i, hi, rfl⟩ := List.mem_map.1 hk
  obtain ⟨_, h2⟩ := List.mem_filter.1 hi
  have h2 : (AL.get ((d.ch u).map (toC val)) ((i : Int) + 1)).isSome = true := h2
  rw [zZ2] at h2
  cases hg : AL.get (d.ch u) ((i : Int) + 1) with
  | none => rw [hg] at h2; cases h2
  | some c => exact ⟨c, rfl⟩
 have hks3 : ((zWi (zQc d val) u).map fun (i : Nat) => (i : Int) + 1).length <= 300 := by
  have h1 := List.length_filter_le (fun i : Nat => (AL.get ((zQc d val).us u).ch ((i : Int) + 1)).isSome) (List.range (zQc d val).recs.length)
  have h2 := hI.r300
  rw [List.length_range] at h1
  rw [List.length_map, zWi]; omega
 generalize (zWi (zQc d val) u).map (fun (i : Nat) => (i : Int) + 1) = ks at hq hmem hks3
 have hql : q.len = ks.length := by have := hq.1; simp at this; omega
 have hqc := hq.le_cap
 have hm : maxLen = 9223372036854775807 := by unfold maxLen; omega
 refine ⟨q, rfl, ?_⟩
 have hP2 : Pu w w2 := hp2
 have zq := hq.lt
 refine zQ8 ks.length (fun k t w' => t.2 = (k : Int) /\ zJb w2 w' t.1 ((ks.take k).filter (zKl (zQc d val) u)) /\ Pu w w' /\ Pu w2 w' /\ zQh w' 3 1 q (ks.map zXp)) ⟨rfl, zJb.nil _ _, hP2, Pu.refl _, hq⟩ ?_
 rintro k J ⟨t, n⟩ w3 hk ⟨hn, hN, hp3, hp23, hq3⟩ hJ
 obtain rfl : n = (k : Int) := hn
 dsimp only at hN
 refine Br.of (fun d1 => ?_) (fun d1 => ?_)
 ·have hk2 : k < ks.length := by have := zQn d1; omega
  obtain ⟨x, hx⟩ := zXD hk2
  obtain ⟨a, ha, hc, hab⟩ := hq3.cell (j := k) (v := zXp x) (by simp [hx])
  refine ⟨a, ha, by omega, by omega, x, by rw [zZa, Nat.mul_one]; exact hc, zQl fun w4 hp4 _ => ?_⟩
  have h4 := (h.pu hp3).pu hp4
  obtain ⟨c, hcx⟩ := hmem x (List.mem_of_getElem? hx)
  have eG : chG (d.ch u) x = c := by rw [chG, hcx]; rfl
  have mc := zVx hu (AL.get_mem hcx)
  have hxr := (hI.gc u hu (toC val (x, c)) (List.mem_map.2 ⟨_, AL.get_mem hcx, rfl⟩)).2
  have hxr : 1 <= x /\ x <= d.rh.length := by simpa [toC, zQc] using hxr
  have hlt : (x - 1).toNat < d.rh.length := by omega
  obtain ⟨y, hy⟩ := zXD hlt
  obtain ⟨b, eb, _, g0⟩ := h4.bd.rw_.elem zQm hy (o := 0) (v := .bool y.g) rfl
  obtain ⟨b', eb', _, g1⟩ := h4.bd.rw_.elem zQm hy (o := 1) (v := .slice y.s.a y.s.len y.s.cap) rfl
  rw [eb] at eb'; cases eb'
  have r1 := h4.read hI (x := c.1) mc.1
  have r2 := h4.read hI (x := c.2) mc.2
  have r3 := h4.read hI (zXn (List.mem_of_getElem? hy))
  refine ⟨some (d.C u), h4.uCh hu, _, c.1.s, _, c.2.s, by rw [← eG]; exact yKY (h4.mp hu) x, d.rs, h4.recs, b, eb, ?_⟩
  rw [zQe (n := x - 1) (by omega) (by omega)]
  refine ⟨by omega, by omega, y.g, g0, y.s, g1, ?_⟩
  rw [eG]
  refine (yJZ r1.1 r2.1 r3.1 (r1.2.trans r2.2.symm) (r3.2.trans r2.2.symm)).mono ?_
  rintro e w7 ⟨rfl, hp7⟩
  have eP : zV5 (⟨c.1.g, hv val c.1⟩, ⟨c.2.g, hv val c.2⟩) ⟨y.g, hv val y⟩ = zKl (zQc d val) u x := by
   unfold zKl
   have e1 : AL.get ((zQc d val).us u).ch x = some (toR val c.1, toR val c.2) := by
    show AL.get ((d.ch u).map (toC val)) x = _
    rw [zZ2, hcx]; rfl
   have e2 : zJJ (zQc d val) x = toR val y := by
    unfold zJJ
    show (d.rh.map (toR val)).getD _ _ = _
    rw [List.getD_eq_getElem?_getD, List.getElem?_map, hy]; rfl
   rw [e1, e2]; rfl
  have hp37 := hp4.trans hp7
  have hp07 := hp3.trans hp37
  have hp27 := hp23.trans hp37
  have hN7 := hN.pu hp37
  have hq7 := hq3.pu hp37
  rw [eP]
  refine ⟨_, rfl, Br.of (fun d2 => alB fun w8 hp8 hb8 => ?_) (fun d2 => ?_)⟩
  ·have hks2 : ((ks.take k).filter (zKl (zQc d val) u)).length <= 1000000 := by
    have h1 := List.length_filter_le (zKl (zQc d val) u) (ks.take k)
    have h3 := List.length_take_le k ks
    omega
   obtain ⟨t', w9, hra, hN9, hf9⟩ := (hN7.pu hp8).push (hp27.trans hp8).size hb8 hks2
   refine ⟨t', w9, hra, ?_⟩
   rw [zQe (by omega) (by omega)]
   have hp89 := (hp07.trans hp8).andNew hf9 fun i hi => by have := hN.2 i hi; have := hP2.size; omega
   have hp289 := (hp27.trans hp8).andNew hf9 fun i hi => hN.2 i hi
   refine hJ _ _ hk2 ⟨by simp, ?_, hp89, hp289, (hq7.pu hp8).fr hf9 fun b hb hb2 => ?_⟩
   ·rw [zQQ hx, List.filter_append]
    simpa [d2] using hN9
   ·have h1 := hN.2 b hb2
    have h2 := zq b hb
    omega
  ·rw [zQe (by omega) (by omega)]
   refine hJ _ _ hk2 ⟨by simp, ?_, hp07, hp27, hq7⟩
   rw [zQQ hx, List.filter_append]
   simpa [d2] using hN7
 ·have hk2 : k = ks.length := by have := zQg d1; omega
  subst hk2
  rw [List.take_length] at hN
  exact ⟨t, rfl, hN.low hP2.size, hp3⟩
end Go.Proofs.YtcihcbfcgjepfaaGreatDoor
/- Desks: Changed, Clashes, Table. No condition but those stated. -/
namespace Go.Proofs.YtcihcbfcgjepfaaGreatDoor
open Go.Sh Go.RowKit Tryz
variable {w w' : World} {d d' : zQq} {val : Nat -> List Val} {mu : Int}
theorem zJb.fr {w0 : World} {B : Nat -> Prop} {s : SV} {l : List Int} (h : zJb w0 w s l) (hf : Fr B w w') (hn : ∀ b ∈ zQa s, ¬ B b) : zJb w0 w' s l := ⟨h.1.fr hf hn, h.2⟩
structure RdT (w : World) (t : Tbl) (f r : SV) : Prop where
 fl : RdF w f t.fields
 rc : zZ4 w r t.recs
theorem RdT.pu {t : Tbl} {f r : SV} (h : RdT w t f r) (hp : Pu w w') : RdT w' t f r := ⟨h.fl.pu hp, h.rc.pu hp⟩
theorem yYi {s : SV} {l : List Fld} (h : zQh w 38 4 s (l.flatMap zVm)) (hn : l.length <= 1000000) : RdF w s l := by
 refine ⟨h.len zXZ (by decide), by omega, fun i f hf => ?_⟩
 obtain ⟨a, ha, _, h0⟩ := h.elem zXZ hf (o := 0) rfl
 obtain ⟨a1, ha1, _, h1⟩ := h.elem zXZ hf (o := 1) rfl
 obtain ⟨a2, ha2, _, h2⟩ := h.elem zXZ hf (o := 2) rfl
 obtain ⟨a3, ha3, _, h3⟩ := h.elem zXZ hf (o := 3) rfl
 rw [ha] at ha1 ha2 ha3; cases ha1; cases ha2; cases ha3
 exact ⟨a, ha, h0, h1, h2, h3⟩
theorem zQU.at_ : ∀ {hs : List zQu} {rs : List Rec} {i : Nat} {r : Rec}, zQU w hs rs -> rs[i]? = some r -> ∃ x, hs[i]? = some x /\ x.g = r.gone /\ zQh w 28 3 x.s (r.v.flatMap zXO)
 | [], [], i, r, _, hr => by simp at hr
 | x :: hs, y :: rs, 0, r, ⟨h1, _⟩, hr => by simp at hr; subst hr; exact ⟨x, rfl, h1⟩
 | x :: hs, y :: rs, i + 1, r, ⟨_, h2⟩, hr => by
  obtain ⟨z, hz, h3⟩ := zQU.at_ h2 (by simpa using hr)
  exact ⟨z, by simpa using hz, h3⟩
theorem yY9 {q : SV} {hs : List zQu} {rs : List Rec} (hrow : zQh w 77 2 q (hs.flatMap yXR)) (hr : zQU w hs rs) (hv : ∀ r ∈ rs, r.v.length <= 1000000) : zZ4 w q rs := by
 refine ⟨(hrow.len zQm (by decide)).trans hr.len, fun i r hi => ?_⟩
 obtain ⟨x, hx, hg, hrx⟩ := hr.at_ hi
 obtain ⟨a, ha, _, h0⟩ := hrow.elem zQm hx (o := 0) rfl
 obtain ⟨a1, ha1, _, h1⟩ := hrow.elem zQm hx (o := 1) rfl
 rw [ha] at ha1; cases ha1
 exact ⟨a, x.s, ha, by rw [← hg]; exact h0, h1, zJQ.rd (w0 := { w with heap := #[] }) ⟨hrx, fun _ _ => Nat.zero_le _⟩ (by have := hv r (List.mem_of_getElem? hi); omega)⟩
theorem zQb.rdR (h : zQb w d mu val) (hI : Inv (zQc d val)) : zZ4 w d.rs (zQc d val).recs := by
 refine ⟨by rw [h.rs_len]; simp [zQc], fun i r hr => ?_⟩
 have hr : (d.rh.map (toR val))[i]? = some r := hr
 rw [List.getElem?_map] at hr
 obtain ⟨x, hx, rfl⟩ := Option.map_eq_some_iff.1 hr
 obtain ⟨a, ha, _, h0⟩ := h.bd.rw_.elem zQm hx (o := 0) rfl
 obtain ⟨a1, ha1, _, h1⟩ := h.bd.rw_.elem zQm hx (o := 1) rfl
 rw [ha] at ha1; cases ha1
 exact ⟨a, x.s, ha, h0, h1, (h.read hI (zXn (List.mem_of_getElem? hx))).1⟩
theorem bs25 : zXc prog 25 = 3 := by kernel_rfl
theorem yKS (h : zQb w d 0 val) (hI : Inv (zQc d val)) :
  Calls prog 24 #[d.ptr] w fun e w' => ∃ (f r : SV) (hs : List zQu), e = .returned (yKq (zQc d val).tbl f r) /\ zQh w' 38 4 f (d.flds.flatMap zVm) /\ (∀ b ∈ zQa f, w.heap.size <= b) /\ zX2 w w' r hs (zQc d val).recs /\ zQ2 w w' d d 0 val /\ Fr (· = d.S) w w' := by
 refine yJb _ w _ (alB fun w1 hp1 hb1 => (zX1 h hp1 0).mono ?_)
 rintro e w2 ⟨rfl, h2, hf2, hs2⟩
 have z1 := hp1.size
 have lr : w.heap.size < w1.heap.size := zQH hb1
 have ho : d.o w.heap.size = none := h.bd.out (Nat.le_refl _)
 have nS : ¬ w.heap.size = d.S := fun e => by rw [e, h.bd.oS] at ho; cases ho
 have hb2 := hf2.blk hb1 nS
 have hr3 := hI.r300
 have hf16 : d.flds.length <= 16 := hI.f16
 refine ⟨_, _, _, rfl, ?_⟩
 refine ⟨d.page, by rw [yZB]; exact h2.at_.page, d.fs, h2.at_.flds, d.rs, h2.at_.recs, alB fun w6 hp6 hb6 => zQy hb6 bs25.symm rfl rfl fun w7 hb7 hf7 _ => zQl fun w8 hp8 _ => ?_⟩
 have hp27 : Pu w2 w7 := hp6.andNew hf7 fun i hi => by rw [show i = w2.heap.size from hi]; exact Nat.le_refl _
 have hp28 := hp27.trans hp8
 have hb8 := hp8.blk hb7
 have h8 := h2.pu hp28
 refine ⟨fun y => Pu w8 y, Pu.refl _, d.fs, fun y hy => cl (hy.blk hb8) 1, d.rs, fun y hy => cl (hy.blk hb8) 2, (yQm (h8.at_.fld hI.vf) (by omega)).mono ?_⟩
 rintro e w9 ⟨qf, rfl, hqf, hqn, hp9⟩
 have h9 := h8.pu hp9
 refine ⟨qf, rfl, hp9, (zKD (h9.at_.rdR hI) (by omega) fun r hr => by have h1 := zQz (hI.gr r hr); have e : (zQc d val).flds.length = d.flds.length := rfl; omega).mono ?_⟩
 rintro e w10 ⟨qr, hs, rfl, hN, hp10⟩
 have hb10 := hp10.blk (hp9.blk hb8)
 have z2 := h2.fr.size
 have zp : w2.heap.size <= w8.heap.size := hp28.size
 have z6 : w2.heap.size < w6.heap.size := zQH hb6
 have z7 := hf7.size
 have z8 := hp8.size
 have z9 := hp9.size
 refine ⟨qr, rfl, ?_⟩
 rw [zQf]
 refine zQ9 hb10 (by show 0 + 1 < 3; omega) fun w11 hw11 hb11 => ?_
 rw [zQf]
 refine zQ9 hb11 (by show 0 + 2 < 3; omega) fun w12 hw12 hb12 => ?_
 have hf12 : Fr (· = w2.heap.size) w10 w12 := by
  refine (show Fr (· = w2.heap.size) w10 w11 by rw [hw11]; exact Fr.cell w10 _ _ _).trans (show Fr (· = w2.heap.size) w11 w12 by rw [hw12]; exact Fr.cell w11 _ _ _) fun i hi _ => hi
 have n7 : ∀ {b : Nat}, w8.heap.size <= b -> ¬ b = w2.heap.size := fun {b} hb e => by omega
 refine ⟨_, cl hb12 0, qf, cl hb12 1, qr, cl hb12 2, zQy (((hp28.trans hp9).trans hp10).andNew hf12 (fun i hi => by rw [show i = w2.heap.size from hi]; exact Nat.le_refl _) |>.blk hb2) bs25.symm rfl rfl fun w13 hb13 hf13 _ => ?_⟩
 have hp212 : Pu w2 w12 := ((hp28.trans hp9).trans hp10).andNew hf12 fun i hi => by rw [show i = w2.heap.size from hi]; exact Nat.le_refl _
 have h12 := h2.pu hp212
 have h13 : yQf w w13 d val := ⟨h12.at_.fr hf13 fun b hb e => hb (by rw [show b = w.heap.size from e]; exact ho), h12.fr.trans hf13 fun i hi hlt => by have hi : i = w.heap.size := hi; omega⟩
 have hvb : ∀ b ∈ vB hs, w9.heap.size <= b := fun b hb => (hN.vnew b hb).1
 refine h13.left fun w14 hL hf14 _ => ?_
 have hS14 : Fr (· = d.S) w w14 := ((((Fr.pu hp1 : Fr (· = d.S) w w1).trans hf2 fun i hi _ => hi).trans (Fr.pu hp212 : Fr (· = d.S) w2 w12) fun i hi _ => hi).trans hf13 fun i hi hlt => by have hi : i = w.heap.size := hi; omega).trans hf14 fun i hi _ => hi
 have hb14 := hf14.blk hb13 nS
 have nS2 : ∀ {b : Nat}, w8.heap.size <= b -> ¬ b = d.S := fun {b} hb e => by have := h8.at_.bd.out hb; rw [e, h.bd.oS] at this; cases this
 refine ⟨_, cl hb14 0, qf, cl hb14 1, qr, cl hb14 2, qf, qr, hs, rfl, ?_, fun b hb => ?_, ⟨?_, fun b hb => ?_, ?_, fun b hb => ⟨?_, (hN.vnew b hb).2⟩, hN.nd⟩, hL, hS14⟩
 ·exact (((hqf.pu hp10).fr hf12 fun b hb => n7 (hqn b hb)).fr hf13 fun b hb e => by have := hqn b hb; have e : b = w.heap.size := e; omega).fr hf14 fun b hb => nS2 (hqn b hb)
 ·have := hqn b hb; omega
 ·exact ((hN.row.fr hf12 fun b hb => n7 (by have := hN.new b hb; omega)).fr hf13 fun b hb e => by have := hN.new b hb; have e : b = w.heap.size := e; omega).fr hf14 fun b hb => nS2 (by have := hN.new b hb; omega)
 ·have := hN.new b hb; omega
 ·exact ((hN.recs.fr hf12 fun b hb => n7 (by have := hvb b hb; omega)).fr hf13 fun b hb e => by have := hvb b hb; have e : b = w.heap.size := e; omega).fr hf14 fun b hb => nS2 (by have := hvb b hb; omega)
 ·have := hvb b hb; omega
theorem zYs (h : zQb w d 0 val) (hI : Inv (zQc d val)) :
  Calls prog 24 #[d.ptr] w fun e w' => ∃ f r : SV, e = .returned (yKq (zQc d val).tbl f r) /\ RdT w' (zQc d val).tbl f r /\ zQ2 w w' d d 0 val /\ Fr (· = d.S) w w' := by
 refine (yKS h hI).mono ?_
 rintro e w' ⟨f, r, hs, rfl, h1, -, h3, h4, h5⟩
 have hf16 : d.flds.length <= 16 := hI.f16
 exact ⟨f, r, rfl, ⟨yYi h1 (by show d.flds.length <= _; omega), yY9 h3.row h3.recs fun r hr => by have h1 := zQz (hI.gr r hr); have e : (zQc d val).flds.length = d.flds.length := rfl; omega⟩, h4, h5⟩
theorem yJC {mu0 : Int} (h : zQb w d mu0 val) (h' : zQb w' d mu0 val) (hf : Fr (· = d.S) w w') : Pu w w' :=
 ⟨hf.os, hf.tape, hf.output, hf.size, fun i hi => by
  by_cases e : i = d.S
  ·rw [e, h.st, h'.st]
  ·exact hf.block i hi e⟩
end Go.Proofs.YtcihcbfcgjepfaaGreatDoor
/- Desks: a change written into a record. No condition but those stated. -/
namespace Go.Proofs.YtcihcbfcgjepfaaGreatDoor
open Go.Sh Go.RowKit Tryz
variable {w w' : World} {d d' : zQq} {val : Nat -> List Val} {mu : Int}
theorem mix0 (b l : List Val) : zKs [] b l = l := by cases b <;> cases l <;> rfl
theorem yJS : ∀ {a b l : List Val} {k : Nat}, (zKs (a.take k) (b.take k) l)[k]? = l[k]?
 | [], b, l, k => by cases l <;> simp [zKs]
 | x :: a, [], l, k => by cases k <;> cases l <;> simp [zKs]
 | x :: a, y :: b, [], k => by cases k <;> simp [zKs]
 | x :: a, y :: b, z :: l, 0 => by simp [zKs]
 | x :: a, y :: b, z :: l, k + 1 => by
  simp only [List.take_succ_cons, zKs, List.getElem?_cons_succ]
  exact yJS
theorem zWV : ∀ {a b l : List Val} {k : Nat} {x y z : Val}, a[k]? = some x -> b[k]? = some y -> l[k]? = some z -> zKs (a.take (k + 1)) (b.take (k + 1)) l = (zKs (a.take k) (b.take k) l).set k (if x = y then z else y)
 | [], b, l, k, x, y, z, h, _, _ => by simp at h
 | _ :: a, [], l, k, x, y, z, _, h, _ => by simp at h
 | _ :: a, _ :: b, [], k, x, y, z, _, _, h => by simp at h
 | p :: a, q :: b, r :: l, 0, x, y, z, h1, h2, h3 => by
  simp at h1 h2 h3; subst h1; subst h2; subst h3
  simp [zKs]
 | p :: a, q :: b, r :: l, k + 1, x, y, z, h1, h2, h3 => by
  simp only [List.take_succ_cons, zKs, List.set_cons_succ]
  rw [zWV (by simpa using h1) (by simpa using h2) (by simpa using h3)]
theorem zWG {α : Type} : ∀ {l : List α} {k : Nat} {x : α}, l[k]? = some x -> l.set k x = l
 | [], k, x, h => by simp at h
 | y :: l, 0, x, h => by simp at h; simp [h]
 | y :: l, k + 1, x, h => by rw [List.set_cons_succ, zWG (by simpa using h)]
theorem yJ3 {α : Type} (f : α -> α) (b : α) : ∀ (l : List α) (k : Nat), (l.set k b).modify k f = l.set k (f b)
 | [], k => by simp
 | y :: l, 0 => rfl
 | y :: l, k + 1 => by rw [List.set_cons_succ, List.modify_succ_cons, yJ3, List.set_cons_succ]
theorem zVd {u : Nat} {rh' : List zQu} : d.gen u d.o d.rs rh' (d.asv u) (d.ah u) (d.cs u) (d.ch u) (d.C u) = { d with rh := rh' } := by
 have e : ∀ {α : Type} (f : Nat -> α), (fun v => if v = u then f u else f v) = f := fun f => by funext v; by_cases e : v = u <;> simp [e]
 simp only [zQq.gen, e]
abbrev RV (d : zQq) : Nat -> Prop := fun b => d.o b = some .R ∨ d.o b = some .V
theorem setRh (h : zQb w d 1 val) {i : Nat} {x y : zQu} (hx : d.rh[i]? = some x) (hs : x.s = y.s) (hf : Fr (· ∈ zQa d.rs) w w') (hrow : zQh w' 77 2 d.rs ((d.rh.set i y).flatMap yXR)) : zQb w' { d with rh := d.rh.set i y } 1 val := by
 have own : ∀ b ∈ zQa d.rs, d.o b = some .R := h.bd.oR
 have hu : 0 < 4 := by decide
 have hm : x ∈ zXs d := zXn (List.mem_of_getElem? hx)
 have ne : ∀ {b : Nat} {κ : zZW}, d.o b = some κ -> κ ≠ .R -> ¬ b ∈ zQa d.rs := fun {b κ} hb hk e => by rw [own b e] at hb; exact hk (Option.some.inj hb).symm
 have hbd : zQ4 w' (d.gen 0 d.o d.rs (d.rh.set i y) (d.asv 0) (d.ah 0) (d.cs 0) (d.ch 0) (d.C 0)) val := by
  refine h.bd.gen hu hf (fun b κ hb _ hk _ _ => ⟨ne hb hk, hb⟩) h.bd.oS hrow own ((h.bd.aw 0 hu).fr hf fun b hb => ne (h.bd.oA 0 hu b hb) (by simp)) (h.bd.oA 0 hu) (fun e => ⟨(h.bd.mp e 0 hu).fr hf (ne (h.bd.oC e 0 hu) (by simp)), h.bd.oC e 0 hu⟩) (fun e => ⟨(h.bd.ml e 0 hu).fr hf fun b hb => ne (h.bd.oK e 0 hu b hb) (by simp), h.bd.oK e 0 hu⟩) (fun z hz => ?_) ?_ (fun b hb => Nat.lt_of_lt_of_le (h.bd.lt b hb) hf.size)
  ·left
   simp only [List.mem_append] at hz
   rcases hz with (hz | hz) | hz
   ·exact ⟨z, zJ5 hu (List.mem_append_left _ hz), rfl⟩
   ·exact ⟨z, zZC hu hz, rfl⟩
   ·rcases List.mem_or_eq_of_mem_set hz with hz | rfl
    ·exact ⟨z, zXn hz, rfl⟩
    ·exact ⟨x, hm, hs.symm⟩
  ·have hnd := (yWe hu).1 h.bd.nd
   have e : zXw d 0 = d.rh ++ (zXw d 0).drop d.rh.length := by simp [zXw]
   rw [e] at hnd
   unfold zYd
   rw [zQo, zQo (d.rh.set _ _), zWq (y := y) hx hs, ← zQo, ← zQo]
   exact hnd
 rw [zVd] at hbd
 exact ⟨hf.blk h.st (ne h.bd.oS (by simp)), hbd, h.sd⟩
theorem yYF (h : zQb w d 1 val) {c : zQu × zQu} (m1 : c.1 ∈ zXs d) (m2 : c.2 ∈ zXs d) {i : Nat} {x : zQu} (hx : d.rh[i]? = some x) (n1 : ∀ b ∈ zQa x.s, b ∉ zQa c.1.s) (n2 : ∀ b ∈ zQa x.s, b ∉ zQa c.2.s)
  (l1 : (hv val c.1).length = (hv val c.2).length) (l2 : (hv val x).length = (hv val c.2).length) (lb : (hv val c.2).length <= 1000000) (lp : 0 < (hv val c.2).length) {a : Addr} (ha : d.rs.a = some a) :
  Calls prog 115 #[chV c, .pointer (some (a.add (i * 2)))] w fun e w' => e = .returned (.tuple #[]) /\ ∃ (y : zQu) (val' : Nat -> List Val), y.s = x.s /\ zQb w' { d with rh := d.rh.set i y } 1 val' /\ Fr (RV d) w w' /\
   zQc { d with rh := d.rh.set i y } val' = { zQc d val with recs := (zQc d val).recs.modify i (zZl (toR val c.1, toR val c.2)) } := by
 have hm : x ∈ zXs d := zXn (List.mem_of_getElem? hx)
 have hi : i < d.rh.length := (List.getElem?_eq_some_iff.1 hx).1
 refine yXH _ _ _ _ _ w _ (alB fun w1 hp1 hb1 => ?_)
 have h1 := h.pu hp1
 refine ⟨_, cl0 hb1, _, cl hb1 2, ?_⟩
 have z1 : w.heap.size < w1.heap.size := zQH hb1
 have nR : d.o w.heap.size = none := h.bd.out (Nat.le_refl _)
 have eX : (zQc d val).recs[i]? = some (toR val x) := by show (d.rh.map (toR val))[i]? = _; rw [List.getElem?_map, hx]; rfl
 have q1 : zQh w 28 3 c.1.s ((hv val c.1).flatMap zXO) := h.bd.vr _ m1
 have q2 : zQh w 28 3 c.2.s ((hv val c.2).flatMap zXO) := h.bd.vr _ m2
 have o1 : ∀ b ∈ zQa c.1.s, d.o b = some .V := fun b hb => h.bd.oV b (zXe m1 hb)
 have o2 : ∀ b ∈ zQa c.2.s, d.o b = some .V := fun b hb => h.bd.oV b (zXe m2 hb)
 have ox : ∀ b ∈ zQa x.s, d.o b = some .V := fun b hb => h.bd.oV b (zXe hm hb)
 have oR := h.bd.oR
 obtain ⟨ab, hab⟩ := zXV (i := 0) (h.bd.vr x hm) (by omega)
 -- the values
 have vals : ∀ (w3 : World) (y : zQu), y.s = x.s -> y.g = (if c.1.g = c.2.g then x.g else c.2.g) -> zQb w3 { d with rh := d.rh.set i y } 1 val -> Fr (RV d) w w3 -> zQh w3 28 3 c.1.s ((hv val c.1).flatMap zXO) -> zQh w3 28 3 c.2.s ((hv val c.2).flatMap zXO) ->
   w3.heap[w.heap.size]? = some (.cells #[.bool c.1.g, .slice c.1.s.a c.1.s.len c.1.s.cap, .bool c.2.g, .slice c.2.s.a c.2.s.len c.2.s.cap] 133) ->
   zVE (fun e w' => e = .returned (.tuple #[]) /\ ∃ (y : zQu) (val' : Nat -> List Val), y.s = x.s /\ zQb w' { d with rh := d.rh.set i y } 1 val' /\ Fr (RV d) w w' /\
   zQc { d with rh := d.rh.set i y } val' = { zQc d val with recs := (zQc d val).recs.modify i (zZl (toR val c.1, toR val c.2)) }) (some (a.add (i * 2))) (some ⟨w.heap.size, 0, none⟩) c.2.s ((c.2.s.len : Nat) : Int) 0 [] w3 := fun w3 y hys hyg h3 hf3 k1 k2 hb3 => by
  have hy : (d.rh.set i y)[i]? = some y := by rw [List.getElem?_set_self hi]
  have hym : y ∈ zXs { d with rh := d.rh.set i y } := zXn (d := { d with rh := d.rh.set i y }) (List.mem_of_getElem? hy)
  have hvy : hv val y = hv val x := by rw [hv, hv, hys]
  have r0 : zQh w3 28 3 x.s ((hv val x).flatMap zXO) := by have := h3.bd.vr y hym; rwa [hvy, hys] at this
  have s1 := k1.len zQL (by decide)
  have s2 := k2.len zQL (by decide)
  have s3 := r0.len zQL (by decide)
  obtain ⟨aR, haR, _, hcl⟩ := h3.bd.rw_.elem zQm hy (o := 1) (v := .slice x.s.a x.s.len x.s.cap) (by rw [← hys]; rfl)
  have haR : d.rs.a = some aR := haR
  rw [ha] at haR; cases haR
  have mixl : ∀ k, (zKs ((hv val c.1).take k) ((hv val c.2).take k) (hv val x)).length = (hv val x).length := fun k => zVg _ _ _
  refine zQ8 (hv val c.2).length (fun k t w' => t = (k : Int) /\ zQh w' 28 3 x.s ((zKs ((hv val c.1).take k) ((hv val c.2).take k) (hv val x)).flatMap zXO) /\ Fr (· ∈ zQa x.s) w3 w') ⟨rfl, by rw [List.take_zero, List.take_zero, mix0]; exact r0, Fr.refl _ _⟩ ?_
  rintro k J t w4 hk ⟨ht, hr4, hf4⟩ hJ
  obtain rfl : t = (k : Int) := ht
  refine Br.of (fun d1 => ?_) (fun d1 => ?_)
  ·have hk2 : k < (hv val c.2).length := by have := zQn d1; omega
   obtain ⟨u, hu⟩ := zXD (l := hv val c.1) (k := k) (by omega)
   obtain ⟨v, hvk⟩ := zXD hk2
   obtain ⟨z, hz⟩ := zXD (l := hv val x) (k := k) (by omega)
   have k14 := k1.fr hf4 fun b hb hb2 => n1 b hb2 hb
   have k24 := k2.fr hf4 fun b hb hb2 => n2 b hb2 hb
   have V2 : RdV w4 c.2.s (hv val c.2) := zJQ.rd (w0 := { w with heap := #[] }) ⟨k24, fun _ _ => Nat.zero_le _⟩ (by omega)
   obtain ⟨p, hp, c0, c1, c2⟩ := V2.get k v hvk
   refine ⟨p, hp, by omega, by omega, _, c0, _, c1, _, c2, alB fun w5 hp5 hb5 => zQy hb5 yKr.symm rfl rfl fun w6 hb6 hf6 _ => zQl fun w7 hp7 _ => ?_⟩
   have hp46 : Pu w4 w6 := hp5.andNew hf6 fun i hi => by rw [show i = w4.heap.size from hi]; exact Nat.le_refl _
   have hp47 := hp46.trans hp7
   have hb7 := hp7.blk hb6
   have V1 : RdV w7 c.1.s (hv val c.1) := zJQ.rd (w0 := { w with heap := #[] }) ⟨k14.pu hp47, fun _ _ => Nat.zero_le _⟩ (by omega)
   obtain ⟨q, hq, e0, e1, e2⟩ := V1.get k u hu
   have nX : ¬ w.heap.size ∈ zQa x.s := fun e => by rw [ox _ e] at nR; cases nR
   have hb4 := hf4.blk hb3 nX
   refine ⟨c.1.s, cl (hp47.blk hb4) 1, q, hq, by omega, by omega, _, e0, _, e1, _, e2, _, cl hb7 0, _, cl hb7 1, _, cl hb7 2, _, fun w => yKA _ _ u v w, ?_⟩
   have hr7 := hr4.pu hp47
   refine Br.of (fun d2 => zQl fun w8 hp8 _ => ?_) (fun d2 => ?_)
   ·have d2 : u ≠ v := by simpa using d2
    have hb8 := hp8.blk hb7
    have hr8 := hr7.pu hp8
    obtain ⟨b, hb, hst⟩ := hr8.stElem (P := prog) (t := 28) zQL (by decide) (i := k) (by rw [mixl]; omega) v yKr.symm rfl (K := fun w' => J (IntKind.i64.wrap ((k : Int) + 1)) w') fun w9 hr9 hf9 hs9 => by
     rw [zQe (by omega) (by omega)]
     refine hJ _ _ hk2 ⟨by omega, ?_, ((hf4.trans (Fr.pu (hp47.trans hp8) : Fr (· ∈ zQa x.s) w4 w8) fun i hi _ => hi).trans hf9 fun i hi _ => hi)⟩
     rw [zWV hu hvk hz, if_neg d2]
     exact hr9
    have hcl8 : w8.cell? ((a.add (i * 2)).add 1) = some (.slice x.s.a x.s.len x.s.cap) := by
     have hf38 : Fr (· ∈ zQa x.s) w3 w8 := hf4.trans (Fr.pu (hp47.trans hp8) : Fr (· ∈ zQa x.s) w4 w8) fun i hi _ => hi
     have := (h3.bd.rw_.fr hf38 fun b hb e => by have h5 := oR b hb; rw [ox b e] at h5; cases h5)
     obtain ⟨aR, haR, _, hc2⟩ := this.elem zQm hy (o := 1) (v := .slice x.s.a x.s.len x.s.cap) (by rw [← hys]; rfl)
     have haR : d.rs.a = some aR := haR
     rw [ha] at haR; cases haR
     exact hc2
    exact ⟨x.s, hcl8, _, cl hb8 0, _, cl hb8 1, _, cl hb8 2, b, hb, by omega, by omega, hst⟩
   ·have d2 : u = v := by simpa using d2
    rw [zQe (by omega) (by omega)]
    refine hJ _ _ hk2 ⟨by omega, ?_, hf4.trans (Fr.pu hp47 : Fr (· ∈ zQa x.s) w4 w7) fun i hi _ => hi⟩
    rw [zWV hu hvk hz, if_pos d2, zWG (by rw [yJS]; exact hz)]
    exact hr7
  ·have hk2 : k = (hv val c.2).length := by have := zQg d1; omega
   subst hk2
   rw [List.take_length, List.take_of_length_le (by omega)] at hr4
   have hby : y.s.a = some ab := by rw [hys]; exact hab
   have hD := h3.setVal hym hby (l' := zKs (hv val c.1) (hv val c.2) (hv val x)) (by rw [hys]; exact hf4) (by rw [hys]; exact hr4)
   refine ⟨rfl, y, _, hys, hD, hf3.trans hf4 fun i hi _ => .inr (ox i hi), ?_⟩
   rw [zJl h3.bd.nd h3.bd.low hy hby]
   have e1 : zQc { d with rh := d.rh.set i y } val = { zQc d val with recs := (zQc d val).recs.set i (toR val y) } := by
    simp only [zQc, List.map_set]
    rfl
   rw [e1]
   show ({ zQc d val with recs := _ } : Dsk) = _
   rw [yJ3, ← zXM eX]
   have e2 : zZl (toR val c.1, toR val c.2) (toR val x) = ⟨y.g, zKs (hv val c.1) (hv val c.2) (hv val x)⟩ := by
    rw [hyg]; rfl
   rw [e2]; rfl
 have nM : ¬ w.heap.size ∈ zQa d.rs := fun e => by rw [oR _ e] at nR; cases nR
 refine Br.of (fun d0 => ⟨_, cl hb1 2, ?_⟩) (fun d0 => ?_)
 ·have d0 : c.1.g ≠ c.2.g := by simpa using d0
  obtain ⟨a1, ha1, hst⟩ := h1.bd.rw_.stField (i := i) (o := 0) zQm hi (by decide) { x with g := c.2.g } (.bool c.2.g) (fun y hy => by rw [hx] at hy; cases hy; rfl) (K := fun w3 => ∃ l21 : SV, w3.cell? (((⟨w.heap.size, 0, none⟩ : Addr).add 2).add 1) = some (.slice l21.a l21.len l21.cap) /\
   zVE (fun e w' => e = .returned (.tuple #[]) /\ ∃ (y : zQu) (val' : Nat -> List Val), y.s = x.s /\ zQb w' { d with rh := d.rh.set i y } 1 val' /\ Fr (RV d) w w' /\
   zQc { d with rh := d.rh.set i y } val' = { zQc d val with recs := (zQc d val).recs.modify i (zZl (toR val c.1, toR val c.2)) }) (some (a.add (i * 2))) (some ⟨w.heap.size, 0, none⟩) l21 ((l21.len : Nat) : Int) 0 [] w3) fun w3 hr3 hf3 hs3 => by
   have hb3 := hf3.blk hb1 nM
   have hF : Fr (RV d) w w3 := (Fr.pu hp1 : Fr (RV d) w w1).trans hf3 fun i hi _ => .inl (oR i hi)
   refine ⟨c.2.s, by rw [zQf, zQf, zQs hb3]; rfl, vals w3 { x with g := c.2.g } rfl (by rw [if_neg d0]) (setRh h1 hx rfl hf3 hr3) hF ((q1.pu hp1).fr hf3 fun b hb e => ?_) ((q2.pu hp1).fr hf3 fun b hb e => ?_) hb3⟩
   ·have := oR b e; rw [o1 b hb] at this; cases this
   ·have := oR b e; rw [o2 b hb] at this; cases this
  rw [ha] at ha1; cases ha1
  rw [yZB] at hst
  exact hst
 ·have d0 : c.1.g = c.2.g := by simpa using d0
  have e : d.rh.set i x = d.rh := zWG hx
  refine ⟨c.2.s, by rw [zQf, zQf, zQs hb1]; rfl, vals w1 x rfl (by rw [if_pos d0]) (by rw [e]; exact h1) (Fr.pu hp1) (q1.pu hp1) (q2.pu hp1) hb1⟩
end Go.Proofs.YtcihcbfcgjepfaaGreatDoor
/- Desks: the end of store: what was appended becomes part of the table. No condition but those stated. -/
namespace Go.Proofs.YtcihcbfcgjepfaaGreatDoor
open Go.Sh Go.RowKit Tryz
variable {w w' : World} {d d' : zQq} {val : Nat -> List Val} {mu : Int}
def endS (u : Nat) (σ : Dsk) : Dsk := let x := σ.us u
 zXG u ({ σ with recs := σ.recs ++ x.ap }.setU u { x with at_ := if x.at_ < 0 then (σ.recs.length : Int) - x.at_ else x.at_ })
theorem zYM (u : Nat) (σ : Dsk) : zXr u σ = endS u { σ with recs := zXf (σ.us u).ch σ.recs } := by
 unfold zXr endS
 simp only [zXd]
theorem zVI {e e' : TypeId} {z z' : Nat} {s t : SV} {vs ws : List Value} (h : zQh w e z s vs) (k : zQh w e' z' t ws) (hne : e ≠ e') : ∀ b ∈ zQa s, b ∉ zQa t := fun b hb hb2 => by
 obtain ⟨_, rfl | ⟨g, cur, h3, h4, _⟩⟩ := h
 ·simp [zQa] at hb
 ·obtain ⟨_, rfl | ⟨g', cur', k3, k4, _⟩⟩ := k
  ·simp [zQa] at hb2
  ·simp [zQa, h3] at hb
   simp [zQa, k3] at hb2
   subst hb; subst hb2
   rw [h4] at k4
   simp at k4
   exact hne k4.2
theorem zVH (h : zQb w d 1 val) {u : Nat} (hu : u < 4) {w5 : World} {rs' t : SV} {out : List Int} (at' : Int) (hst : w5.heap[d.S]? = some (.cells (zXh 1 (({ d with rs := rs' } : zQq).withAt u at')) 93)) (hrow : zQh w5 77 2 rs' ((d.rh ++ d.ah u).flatMap yXR))
  (hb : ∀ b ∈ zQa rs', b ∈ zQa d.rs ∨ w.heap.size <= b) (hf : Fr (fun b => b = d.S ∨ b ∈ zQa d.rs) w w5) (hN : zJb w w5 t out) :
  Calls prog 116 #[d.ptr, .int .i64 (u : Int), .pointer (some (uA d u))] w5 fun e w6 => e = .returned (.tuple #[]) /\ zJb w w6 t out /\ ∃ d', zQ2 w w6 d d' 1 val /\
   zQc d' val = zXG u ({ zQc d val with recs := (zQc d val).recs ++ ((zQc d val).us u).ap }.setU u { (zQc d val).us u with at_ := at' }) := by
 obtain ⟨l, hl, hk⟩ := h.lm
 have hLS : d.L ≠ d.S := fun e => by have := h.bd.oL; rw [e, h.bd.oS] at this; cases this
 have oR := h.bd.oR
 have nL : ¬ (d.L = d.S ∨ d.L ∈ zQa d.rs) := fun e => by
  rcases e with e | e
  ·exact hLS e
  ·have := oR _ e; rw [h.bd.oL] at this; cases this
 refine (zV6 (d := ({ d with rs := rs' } : zQq).withAt u at') hst (hl.fr hf nL) hLS hu).mono ?_
 rintro e w6 ⟨rfl, hst6, hm6, hf6, l', hl', hk'⟩
 have z5 := hf.size
 have z6 := hf6.size
 have hF : Fr (fun b => b = d.S ∨ b ∈ zQa d.rs ∨ b = d.L) w w6 := (hf.mono (B' := fun b => b = d.S ∨ b ∈ zQa d.rs ∨ b = d.L) fun i hi _ => hi.elim .inl fun h => .inr (.inl h)).trans hf6 fun i hi _ => by
  rcases hi with hi | hi
  ·exact .inl hi
  ·exact .inr (.inr hi)
 have zr := hrow.lt
 have own5 : ∀ {b : Nat}, d.o b ≠ none -> b < w5.heap.size := fun {b} hb => by have := h.bd.lt b hb; omega
 have nt : ∀ b ∈ zQa t, ¬ (b = d.S ∨ b = d.L) := fun b hb e => by
  have h1 := h.bd.out (hN.2 b hb)
  rcases e with e | e
  ·rw [e, h.bd.oS] at h1; cases h1
  ·rw [e, h.bd.oL] at h1; cases h1
 have ne : ∀ {b : Nat} {κ : zZW}, d.o b = some κ -> κ ≠ .S -> κ ≠ .L -> κ ≠ .R -> ¬ (b = d.S ∨ b ∈ zQa d.rs ∨ b = d.L) := fun {b κ} hb h1 h2 h3 e => by
  rcases e with e | e | e
  ·rw [e, h.bd.oS] at hb; exact h1 (Option.some.inj hb).symm
  ·rw [oR b e] at hb; exact h3 (Option.some.inj hb).symm
  ·rw [e, h.bd.oL] at hb; exact h2 (Option.some.inj hb).symm
 have up : ∀ {b : Nat} {κ : zZW}, d.o b = some κ -> κ ≠ .R -> (if b = w5.heap.size then some (zZW.C u) else if b ∈ zQa rs' then some .R else d.o b) = some κ := fun {b κ} hbo hk => by
  have hlt : b < w5.heap.size := own5 (by rw [hbo]; simp)
  have hlw : b < w.heap.size := h.bd.lt b (by rw [hbo]; simp)
  rw [if_neg (by omega), if_neg fun e => ?_]
  ·exact hbo
  ·rcases hb b e with e | e
   ·rw [oR b e] at hbo; exact hk (Option.some.inj hbo).symm
   ·omega
 have nrs : ∀ b ∈ zQa rs', ¬ (b = d.S ∨ b = d.L) := fun b hb2 e => by
  rcases hb b hb2 with h1 | h1
  ·have h2 := oR b h1
   rcases e with e | e
   ·rw [e, h.bd.oS] at h2; cases h2
   ·rw [e, h.bd.oL] at h2; cases h2
  ·have h2 := h.bd.out h1
   rcases e with e | e
   ·rw [e, h.bd.oS] at h2; cases h2
   ·rw [e, h.bd.oL] at h2; cases h2
 have hbd := h.bd.genL hu (lk' := fun k => if d.lk k = some (u : Int) then none else d.lk k) (o' := fun b => if b = w5.heap.size then some (.C u) else if b ∈ zQa rs' then some .R else d.o b) (rs' := rs') (rh' := d.rh ++ d.ah u) (as' := ⟨none, 0, 0⟩) (ah' := []) (cs' := d.cs u) (ch' := []) (C' := w5.heap.size) hF
  ⟨l', hl', fun k => by
   rw [hk', hk, h.sd]
   split
   ·rfl
   ·cases d.lk k <;> rfl⟩ (up h.bd.oL (by simp)) (fun b κ hbo k0 k1 k2 k3 k4 => ⟨ne hbo k1 k0 k2, up hbo k2⟩) (up h.bd.oS (by simp)) (hrow.fr hf6 nrs) (fun b hb2 => by
   have := zr b hb2
   show (if b = w5.heap.size then _ else if b ∈ zQa rs' then _ else _) = _
   rw [if_neg (by omega), if_pos hb2]) (zQh.nil _ _ _) (by simp [zQa]) (fun _ => ⟨hm6, if_pos rfl⟩) (fun e => absurd (h.sd.symm.trans e) (by simp)) (fun x hx => by
   simp only [List.append_nil, chH, List.flatMap_nil, List.nil_append, List.mem_append] at hx
   rcases hx with hx | hx
   ·exact .inl ⟨x, zXn hx, rfl⟩
   ·exact .inl ⟨x, zZC hu hx, rfl⟩) (by
   have hnd := (yWe hu).1 h.bd.nd
   have e : zXw d u = d.rh ++ (zXw d u).drop d.rh.length := by simp [zXw]
   rw [e] at hnd
   simp only [zYd, chH, List.flatMap_nil, List.nil_append]
   have p : (d.rh ++ d.ah u ++ (zXw d u).drop d.rh.length).Perm (d.ah u ++ (d.rh ++ (zXw d u).drop d.rh.length)) := by
    rw [List.append_assoc]; exact List.perm_append_comm_assoc ..
   refine (zZx p).nodup_iff.2 ?_
   rw [uH, List.append_assoc, zQo] at hnd
   exact (List.nodup_append.1 hnd).2.1) (fun b hbo => by
   by_cases e : b = w5.heap.size
   ·rw [e]; exact hm6.lt
   ·rw [if_neg e] at hbo
    by_cases e2 : b ∈ zQa rs'
    ·have := zr b e2; omega
    ·rw [if_neg e2] at hbo
     exact Nat.lt_of_lt_of_le (h.bd.lt b hbo) hF.size)
 refine ⟨rfl, hN.fr hf6 nt, _, ⟨⟨hst6, hbd.same d.mode (fun v => if v = u then at' else d.at_ v), h.sd⟩, hF.mono fun i hi _ => ?_, fun b hbo => ?_, rfl⟩, ?_⟩
 ·rcases hi with rfl | hi | rfl
  ·rw [h.bd.oS]; simp
  ·rw [oR i hi]; simp
  ·rw [h.bd.oL]; simp
 ·have hbo : (if b = w5.heap.size then some (zZW.C u) else if b ∈ zQa rs' then some .R else d.o b) ≠ none := hbo
  by_cases e : b = w5.heap.size
  ·right; omega
  ·rw [if_neg e] at hbo
   by_cases e2 : b ∈ zQa rs'
   ·rcases hb b e2 with h1 | h1
    ·left; rw [oR b h1]; simp
    ·right; exact h1
   ·rw [if_neg e2] at hbo; exact .inl hbo
 ·simp only [zQc, zXG, Dsk.setU, List.map_append, Dsk.mk.injEq]
  refine ⟨rfl, rfl, by simp [zQq.gen, zVk], ?_, rfl⟩
  funext v
  by_cases e : v = u
  ·subst e; simp [zVk, zQq.gen]
  ·simp [zVk, zQq.gen, e]
end Go.Proofs.YtcihcbfcgjepfaaGreatDoor
/- Desks: store: the appended records. No condition but those stated. -/
namespace Go.Proofs.YtcihcbfcgjepfaaGreatDoor
open Go.Sh Go.RowKit Tryz
variable {w w' : World} {d d' : zQq} {val : Nat -> List Val} {mu : Int}
theorem yXe (h : zQb w d 1 val) {u : Nat} (hu : u < 4) (hb : d.rh.length + (d.ah u).length <= 1000) (hat : -(d.at_ u) <= (d.ah u).length) {R : Rt}
  (hR : ∀ w' q d', zJb w w' q (zJ3 u (zQc d val)) -> zQ2 w w' d d' 1 val -> zQc d' val = endS u (zQc d val) -> R (.returned (.tuple #[.slice q.a q.len q.cap, .int .i64 0])) w') :
  yY2 R (some ⟨d.S, 0, none⟩) (u : Int) (some (uA d u)) [] w := by
 refine ⟨d.asv u, h.uAp hu, ?_⟩
 have hal := h.as_len hu
 have hrl := h.rs_len
 have oR := h.bd.oR
 have eA : ((zQc d val).us u).at_ = d.at_ u := rfl
 have eR : (zQc d val).recs.length = d.rh.length := by simp [zQc]
 have eP : ((zQc d val).us u).ap.length = (d.ah u).length := zKJ
 have eL : zJ3 u (zQc d val) = (List.range (d.ah u).length).map fun (j : Nat) => ((d.rh.length : Int) + j) + 1 := by unfold zJ3; rw [eP, eR]
 have d0 : zXh 1 { d with rs := d.rs } = zXh 1 d := rfl
 refine zQ8 (d.ah u).length (fun k t w' => t.2 = (k : Int) /\ ∃ rk : SV, zQh w' 77 2 rk ((d.rh ++ (d.ah u).take k).flatMap yXR) /\ (∀ b ∈ zQa rk, b ∈ zQa d.rs ∨ w.heap.size <= b) /\ w'.heap[d.S]? = some (.cells (zXh 1 { d with rs := rk }) 93) /\
  zJb w w' t.1 ((List.range k).map fun (j : Nat) => ((d.rh.length : Int) + j) + 1) /\ Fr (fun b => b = d.S ∨ b ∈ zQa d.rs) w w') ⟨rfl, d.rs, by simpa using h.bd.rw_, fun b hb => .inl hb, h.st, zJb.nil _ _, Fr.refl _ _⟩ ?_
 rintro k J ⟨t, n⟩ w1 hk ⟨hn, rk, hrow, hrb, hst, hN, hf⟩ hJ
 obtain rfl : n = (k : Int) := hn
 dsimp only at hN
 have nA : ∀ b ∈ zQa (d.asv u), ¬ (b = d.S ∨ b ∈ zQa d.rs) := fun b hb e => by
  have h1 := h.bd.oA u hu b hb
  rcases e with e | e
  ·rw [e, h.bd.oS] at h1; cases h1
  ·rw [oR b e] at h1; cases h1
 have hasv := (h.bd.aw u hu).fr hf nA
 have hkl := List.length_take_le k (d.ah u)
 have hrlen := hrow.len zQm (by decide)
 rw [List.length_append] at hrlen
 refine Br.of (fun d1 => ?_) (fun d1 => ?_)
 ·have hk2 : k < (d.ah u).length := by have := zQn d1; omega
  have hkt : ((d.ah u).take k).length = k := by rw [List.length_take]; omega
  obtain ⟨x, hx⟩ := zXD hk2
  obtain ⟨a, ea, _, g0⟩ := hasv.elem zQm hx (o := 0) (v := .bool x.g) rfl
  obtain ⟨a', ea', _, g1⟩ := hasv.elem zQm hx (o := 1) (v := .slice x.s.a x.s.len x.s.cap) rfl
  rw [ea] at ea'; cases ea'
  refine ⟨a, ea, by omega, by omega, x.g, g0, x.s, g1, alB fun w2 hp2 hb2 => zQy hb2 bs77.symm rfl rfl fun w3 hb3 hf3 hs3 => zQl fun w4 hp4 _ => ?_⟩
  have hp13 : Pu w1 w3 := hp2.andNew hf3 fun i hi => by rw [show i = w1.heap.size from hi]; exact Nat.le_refl _
  have hp14 := hp13.trans hp4
  have hb4 := hp4.blk hb3
  have hst4 := hp14.blk hst
  have rcell : ∀ y, Pu w4 y -> y.cell? (((⟨d.S, 0, none⟩ : Addr).add 2).add 2) = some (.slice rk.a rk.len rk.cap) := fun y hy => by rw [zQf, zQf, zQs (hy.blk hst4)]; rfl
  refine ⟨fun y => Pu w4 y, Pu.refl _, rk, fun y hy => rcell y hy, x.g, fun y hy => cl (hy.blk hb4) 0, x.s, fun y hy => cl (hy.blk hb4) 1, alB fun w5 hp5 hb5 => ⟨hp5, ?_⟩⟩
  have hp15 := hp14.trans hp5
  have hrow5 := hrow.pu hp15
  obtain ⟨r', w6, hra, hrow6, hf6, hblk6, _⟩ := zQV (P := prog) (ty := 23) bu23 zYN rfl (by omega) hrow5 (A := some ⟨w4.heap.size, 0, none⟩) (m := 1) (c := 1) (news := [.bool x.g, .slice x.s.a x.s.len x.s.cap]) rfl (fun j y hy => ⟨_, rfl, by rw [cl hb5]; simpa using hy⟩) (fun y hy => by simp at hy; rcases hy with rfl | rfl <;> rfl) (by show (rk.len + 1) * (32 + 1) <= _; omega)
  refine ⟨r', w6, hra, ?_⟩
  have z1 := hf.size
  have z5 := hp15.size
  have nS : ∀ b ∈ zQa rk, ¬ b = d.S := fun b hb e => by
   rcases hrb b hb with h1 | h1
   ·have := oR b h1; rw [e, h.bd.oS] at this; cases this
   ·have := h.bd.out h1; rw [e, h.bd.oS] at this; cases this
  have hst6 := hf6.blk (hp15.blk hst) (fun e => nS _ e rfl)
  rw [zXB, zQf, zQf]
  refine zQ9 hst6 (by show 0 + 2 + 2 < 22; omega) fun w7 hw7 hb7 => ?_
  have hf7 : Fr (· = d.S) w6 w7 := by rw [hw7]; exact Fr.cell w6 _ _ _
  have hb7 : w7.heap[d.S]? = some (.cells (zXh 1 { d with rs := r' }) 93) := hb7
  have nS' : ∀ b ∈ zQa r', ¬ b = d.S := fun b hb e => by
   rcases hblk6 b hb with h1 | h1
   ·exact nS b h1 e
   ·have h2 := h.bd.lt d.S (by rw [h.bd.oS]; simp)
    omega
  have hrow7 := hrow6.fr hf7 nS'
  refine ⟨r', by rw [zQf, zQf, zQs hb7]; rfl, alB fun w8 hp8 hb8 => ?_⟩
  have er : r'.len = rk.len + 1 := by
   have h1 := hrow7.1
   simp only [List.length_append, zQw zQm, List.length_cons, List.length_nil] at h1
   omega
  have eint : ((r'.len : Nat) : Int) = ((d.rh.length : Int) + k) + 1 := by rw [er, hrlen, hkt]; omega
  rw [eint] at hb8
  -- the row of numbers
  have hNt : zJb w w5 t _ := hN.pu hp15
  have ap1 : ∀ b ∈ zQa t, b ∉ zQa rk := zVI hNt.1 hrow5 (by decide)
  have hN7 := ((hNt.fr hf6 ap1).fr hf7 fun b hb e => by have h1 := h.bd.out (hN.2 b hb); rw [e, h.bd.oS] at h1; cases h1).pu hp8
  have z6 := hf6.size
  have z7 := hf7.size
  have z8 := hp8.size
  obtain ⟨t', w9, hra9, hN9, hf9⟩ := hN7.push (by omega) hb8 (by simp; omega)
  refine ⟨t', w9, hra9, ?_⟩
  rw [zQe (by omega) (by omega)]
  have hrow8 := hrow7.pu hp8
  have ap2 : ∀ b ∈ zQa r', b ∉ zQa t := zVI hrow8 hN7.1 (by decide)
  refine hJ _ _ hk2 ⟨by simp, r', ?_, fun b hb => ?_, hf9.blk (hp8.blk hb7) (fun e => by have h1 := h.bd.out (hN.2 _ e); rw [h.bd.oS] at h1; cases h1), ?_, ?_⟩
  ·rw [zQQ hx, ← List.append_assoc, List.flatMap_append, List.flatMap_singleton]
   exact hrow8.fr hf9 ap2
  ·rcases hblk6 b hb with h1 | h1
   ·exact hrb b h1
   ·right; omega
  ·rw [List.range_succ, List.map_append]; exact hN9
  ·have q1 : Fr (fun b => b = d.S ∨ b ∈ zQa d.rs) w w6 := (hf.trans (Fr.pu hp15 : Fr (fun b => b = d.S ∨ b ∈ zQa d.rs) w1 w5) fun i hi _ => hi).trans hf6 fun i hi hlt => by
    rcases hrb i hi with h1 | h1
    ·exact .inr h1
    ·omega
   exact ((q1.trans hf7 fun i hi _ => .inl hi).trans (Fr.pu hp8 : Fr (fun b => b = d.S ∨ b ∈ zQa d.rs) w7 w8) fun i hi _ => hi).trans hf9 fun i hi hlt => by have := hN.2 i hi; omega
 ·have hk2 : k = (d.ah u).length := by have := zQg d1; omega
  subst hk2
  rw [List.take_length] at hrow
  have eU : w1.cell? ((uA d u).add 1) = some (.int .i64 (d.at_ u)) := by rw [zQf, zQs hst]; exact yZt (d := { d with rs := rk }) hu
  refine ⟨_, eU, Br.of (fun c => ?_) (fun c => ?_)⟩
  ·have c := zQn c
   have ew : IntKind.i64.wrap ((IntKind.i64.wrap (0 - d.at_ u)) - 1) = -d.at_ u - 1 := by rw [zQe (n := 0 - d.at_ u) (by omega) (by omega), zQe (by omega) (by omega)]; omega
   have hlt : (-d.at_ u - 1).toNat < (d.ah u).length := by omega
   have hNl := hN.len
   simp only [List.length_map, List.length_range] at hNl
   obtain ⟨a, ha, hc, _⟩ := hN.1.cell (j := (-d.at_ u - 1).toNat) (v := .int .i64 ((d.rh.length : Int) - d.at_ u)) (by
    rw [List.getElem?_map, List.getElem?_map, List.getElem?_range hlt]
    simp only [Option.map_some, Option.some.injEq]
    congr 1; omega)
   refine ⟨_, eU, a, ha, ?_⟩
   rw [ew]
   refine ⟨by omega, by show -d.at_ u - 1 < ((t.len : Nat) : Int); omega, (d.rh.length : Int) - d.at_ u, by rw [Nat.mul_one]; exact hc, ?_⟩
   rw [zXB, zQf]
   refine zQ9 hst (by show 5 + u * 4 + 1 < 22; omega) fun w2 hw2 hb2 => ?_
   have hf2 : Fr (· = d.S) w1 w2 := by rw [hw2]; exact Fr.cell w1 _ _ _
   rw [zVa hu] at hb2
   have nS : ∀ b ∈ zQa rk, ¬ b = d.S := fun b hb e => by
    rcases hrb b hb with h1 | h1
    ·have := oR b h1; rw [e, h.bd.oS] at this; cases this
    ·have := h.bd.out h1; rw [e, h.bd.oS] at this; cases this
   refine (zVH h hu _ hb2 (hrow.fr hf2 nS) hrb (hf.trans hf2 fun i hi _ => .inl hi) (hN.fr hf2 fun b hb e => by have h1 := h.bd.out (hN.2 b hb); rw [e, h.bd.oS] at h1; cases h1)).mono ?_
   rintro e w3 ⟨rfl, hN3, d', hL, habs⟩
   refine ⟨rfl, hR w3 t d' (by rw [eL]; exact hN3) hL ?_⟩
   rw [habs]
   simp only [endS, eA, eR]
   rw [if_pos c]
  ·have c := zQg c
   have e1 : zXh 1 { d with rs := rk } = zXh 1 (({ d with rs := rk } : zQq).withAt u (d.at_ u)) := by
    have e : (fun v => if v = u then d.at_ u else d.at_ v) = d.at_ := by funext v; by_cases e : v = u <;> simp [e]
    simp only [zQq.withAt, e]
   rw [e1] at hst
   refine (zVH h hu _ hst hrow hrb hf hN).mono ?_
   rintro e w3 ⟨rfl, hN3, d', hL, habs⟩
   refine ⟨rfl, hR w3 t d' (by rw [eL]; exact hN3) hL ?_⟩
   rw [habs]
   simp only [endS, eA, eR]
   rw [if_neg c]
end Go.Proofs.YtcihcbfcgjepfaaGreatDoor
/- Desks: store. No condition but those stated. -/
namespace Go.Proofs.YtcihcbfcgjepfaaGreatDoor
open Go.Sh Go.RowKit Tryz
variable {w w' : World} {d d' : zQq} {val : Nat -> List Val} {mu : Int}
def zZ5 (ch : List (Int × (Rec × Rec))) (todo : List Chg) (l : List Rec) : List Rec := l.mapIdx fun i r => if (AL.get todo ((i : Int) + 1)).isSome then r else match AL.get ch ((i : Int) + 1) with
 | some c => zZl c r
 | none => r
theorem yQ9 (ch : List (Int × (Rec × Rec))) (l : List Rec) : zZ5 ch [] l = zXf ch l := by
 unfold zZ5 zXf
 congr 1
theorem yQV (val : Nat -> List Val) (ch : List Chg) (l : List Rec) : zZ5 (ch.map (toC val)) ch l = l := by
 unfold zZ5
 refine List.ext_getElem? fun j => ?_
 rw [List.getElem?_mapIdx]
 cases l[j]? with
 | none => rfl
 | some r =>
  simp only [Option.map_some, Option.some.injEq]
  rw [zZ2]
  cases AL.get ch ((j : Int) + 1) <;> rfl
theorem yQX (ch : List (Int × (Rec × Rec))) (todo : List Chg) (l : List Rec) : (zZ5 ch todo l).length = l.length := by simp [zZ5]
theorem yXn {ch : List (Int × (Rec × Rec))} {todo : List Chg} {l : List Rec} {i : Nat} {k : Int} (hk : (i : Int) + 1 = k) {v : zQu × zQu} (hg : AL.get todo k = some v) : (zZ5 ch todo l)[i]? = l[i]? := by
 unfold zZ5
 rw [List.getElem?_mapIdx, hk, hg]
 cases l[i]? <;> rfl
theorem zYg {ch : List (Int × (Rec × Rec))} {todo : List Chg} {l : List Rec} {i : Nat} {k : Int} (hk : (i : Int) + 1 = k) (hn : (todo.map Prod.fst).Nodup) {v : zQu × zQu} (hg : AL.get todo k = some v) {C : Rec × Rec} (hc : AL.get ch k = some C) :
  (zZ5 ch todo l).modify i (zZl C) = zZ5 ch (AL.del todo k) l := by
 refine List.ext_getElem? fun j => ?_
 rw [List.getElem?_modify]
 unfold zZ5
 rw [List.getElem?_mapIdx, List.getElem?_mapIdx]
 cases l[j]? with
 | none => rfl
 | some r =>
  simp only [Option.map_some, Option.some.injEq]
  rw [AL.get_del hn]
  by_cases e : i = j
  ·subst e
   simp [hk, hg, hc]
  ·simp [e, show ¬ k = (j : Int) + 1 by omega]
theorem yYo (k : Int) (c : zQu × zQu) (K : Int -> Bool -> SV -> Bool -> SV -> Prop) : (yZY .i64 (zXp k) fun n => yXQ (chV c) fun q0 => dHd q0 fun x0 q1 => dBl x0 fun b0 => dHd q1 fun x1 q2 => dSl x1 fun l1 => dHd q2 fun x2 q3 => dBl x2 fun b2 => dHd q3 fun x3 q4 => dSl x3 fun l3 => yXV q4 (K n b0 l1 b2 l3)) = K k c.1.g c.1.s c.2.g c.2.s := rfl
theorem zYu (h : zQb w d 1 val) (hI : Inv (zQc d val)) {u : Nat} (hu : u < 4) {R : Rt}
  (hR : ∀ w' q d' val', zJb w w' q (zJ3 u (zQc d val)) -> zQ2 w w' d d' 1 val' -> zQc d' val' = zXr u (zQc d val) -> R (.returned (.tuple #[.slice q.a q.len q.cap, .int .i64 0])) w') :
  yYr R (some ⟨d.S, 0, none⟩) (u : Int) (some (uA d u)) [] w := by
 have hl3 := hI.chl hu
 have ha3 := hI.ah hu
 have hr3 := hI.rh
 have hat := hI.at_ u hu
 have eA : ((zQc d val).us u).at_ = d.at_ u := rfl
 rw [eA, zKJ] at hat
 have hf16 : d.flds.length <= 16 := hI.f16
 have hl1 : 0 < d.flds.length := List.length_pos_iff.2 (zQO hI.vf).1
 have hrl := h.rs_len
 obtain ⟨w0, hrun, hi0, hp0, hs0⟩ := (h.mp hu).range (P := prog) yYz
 refine ⟨some (d.C u), h.uCh hu, _, w0, hrun, ?_⟩
 have nr : d.o w.heap.size = none := h.bd.out (Nat.le_refl _)
 have oC := h.bd.oC h.sd u hu
 have eCh : ((zQc d val).us u).ch = (d.ch u).map (toC val) := rfl
 have nRV : ¬ RV d (d.C u) := fun e => by rw [RV, oC] at e; rcases e with e | e <;> cases e
 have nRV2 : ¬ RV d w.heap.size := fun e => by rw [RV, nr] at e; rcases e with e | e <;> cases e
 refine zWW (d.ch u).length (fun m _ w' => ∃ (todo : List Chg) (rhk : List zQu) (valk : Nat -> List Val), todo.length = m /\ zQD w' zXp chV w.heap.size (d.C u) (d.ch u) todo /\ zQb w' { d with rh := rhk } 1 valk /\ Fr (fun b => RV d b ∨ b = w.heap.size) w w' /\
  zQc { d with rh := rhk } valk = { zQc d val with recs := zZ5 ((zQc d val).us u).ch todo (zQc d val).recs } /\ (∀ k v, AL.get todo k = some v -> AL.get (d.ch u) k = some v))
  ⟨d.ch u, d.rh, val, rfl, hi0, h.pu hp0, Fr.pu hp0, by rw [eCh, yQV], fun _ _ h => h⟩ ?_
 rintro m J s w1 ⟨todo, rhk, valk, hm, hi, hD, hf, habs, hT⟩ hJ
 have erl : rhk.length = d.rh.length := by
  have := congrArg (fun σ : Dsk => σ.recs.length) habs
  simp only [yQX] at this
  simpa [zQc] using this
 have eus : ∀ p ∈ d.ch u, toC valk p = toC val p := by
  have h1 := congrArg (fun σ : Dsk => (σ.us u).ch) habs
  exact List.map_inj_left.1 h1
 rcases hi.next (P := prog) 0 with ⟨h0, hr⟩ | ⟨p, hp, w2, hr, hf2, hs2, hi2, hen⟩
 ·left
  refine ⟨w1, hr, ?_⟩
  rw [h0, yQ9] at habs
  refine yXe hD hu (by show rhk.length + (d.ah u).length <= 1000; omega) (by show -(d.at_ u) <= ((d.ah u).length : Int); omega) fun w' q d' hN hL ha => ?_
  have hL1 : zQ2 w w1 d { d with rh := rhk } 1 valk := ⟨hD, hf.mono fun i hi hlt => by
   rcases hi with (hi | hi) | hi
   ·rw [hi]; simp
   ·rw [hi]; simp
   ·omega, fun b hb => .inl hb, rfl⟩
  refine hR w' q d' valk ?_ (hL1.trans hL) ?_
  ·have e : zJ3 u (zQc { d with rh := rhk } valk) = zJ3 u (zQc d val) := by
    rw [habs]; unfold zJ3; simp only [zXd]
   rw [e] at hN
   exact hN.low hf.size
  ·rw [ha, habs, zYM]
 ·right
  have hg : AL.get todo p.1 = some p.2 := AL.get_of_mem hi.nodup hp
  have hgc := hT _ _ hg
  have hpm : p ∈ d.ch u := AL.get_mem hgc
  have hxr := (hI.gc u hu (toC val p) (List.mem_map.2 ⟨p, hpm, rfl⟩))
  have hkr : 1 <= p.1 /\ p.1 <= d.rh.length := by simpa [toC, zQc] using hxr.2
  have hD2 : zQb w2 { d with rh := rhk } 1 valk := hD.fr hf2 fun b hb e => hb (by rw [show b = w.heap.size from e]; exact nr)
  refine ⟨_, _, w2, hr, _, _, w2, hen, ?_⟩
  rw [yYo]
  refine alB fun w3 hp3 hb3 => zQy hb3 yKO.symm rfl rfl fun w4 hb4 hf4 hs4 => zQl fun w5 hp5 _ => ?_
  have hp24 : Pu w2 w4 := hp3.andNew hf4 fun i hi => by rw [show i = w2.heap.size from hi]; exact Nat.le_refl _
  have hp25 := hp24.trans hp5
  have hb5 := hp5.blk hb4
  have hD5 := hD2.pu hp25
  have hlt : (p.1 - 1).toNat < rhk.length := by omega
  obtain ⟨x, hx⟩ := zXD hlt
  obtain ⟨a, ea, _, _⟩ := hD5.bd.rw_.elem zQm hx (o := 0) (v := .bool x.g) rfl
  have ea : d.rs.a = some a := ea
  refine ⟨_, cl hb5 0, p.2.1.s, cl hb5 1, _, cl hb5 2, p.2.2.s, cl hb5 3, d.rs, hD5.recs, a, ea, ?_⟩
  rw [zQe (n := p.1 - 1) (by omega) (by omega)]
  refine ⟨by omega, by omega, ?_⟩
  have mc := zVx (d := { d with rh := rhk }) hu (c := p) hpm
  have hap := (zWS hD5.bd.nd hD5.bd.low).2 u
  have hxv : ∀ b ∈ zQa x.s, b ∈ vB rhk := fun b hb => zXe (List.mem_of_getElem? hx) hb
  have hcv : ∀ z, z = p.2.1 ∨ z = p.2.2 -> ∀ b ∈ zQa z.s, b ∈ vB (uH d u) := fun z hz b hb => zXe (List.mem_append_left _ (List.mem_flatMap.2 ⟨p, hpm, by rcases hz with rfl | rfl <;> simp⟩)) hb
  have ep := eus p hpm
  have e1 : hv valk p.2.1 = hv val p.2.1 := congrArg (fun z : Int × (Rec × Rec) => z.2.1.v) ep
  have e2 : hv valk p.2.2 = hv val p.2.2 := congrArg (fun z : Int × (Rec × Rec) => z.2.2.v) ep
  have k1 : (hv val p.2.1).length = d.flds.length := zQz hxr.1.1
  have k2 : (hv val p.2.2).length = d.flds.length := zQz hxr.1.2
  have exr : toR valk x = (zQc d val).recs.getD (p.1 - 1).toNat default /\ (hv valk x).length = d.flds.length := by
   have h1 := congrArg (fun σ : Dsk => σ.recs[(p.1 - 1).toNat]?) habs
   simp only [yXn (i := (p.1 - 1).toNat) (k := p.1) (by omega) hg] at h1
   have h2 : (rhk.map (toR valk))[(p.1 - 1).toNat]? = (zQc d val).recs[(p.1 - 1).toNat]? := h1
   rw [List.getElem?_map, hx] at h2
   refine ⟨by rw [List.getD_eq_getElem?_getD, ← h2]; rfl, ?_⟩
   have h3 := hI.gr (toR valk x) (List.mem_of_getElem? h2.symm)
   exact zQz h3
  refine (yYF hD5 (c := p.2) mc.1 mc.2 hx (fun b hb hb2 => hap b (hxv b hb) (hcv _ (.inl rfl) b hb2)) (fun b hb hb2 => hap b (hxv b hb) (hcv _ (.inr rfl) b hb2)) (by rw [e1, e2, k1, k2]) (by rw [e2, k2, exr.2]) (by rw [e2, k2]; omega) (by rw [e2, k2]; exact hl1) ea).mono ?_
  rintro e w6 ⟨rfl, y, val', hys, hD6, hf6, habs6⟩
  refine ⟨rfl, ?_⟩
  have hf6 : Fr (RV d) w5 w6 := hf6
  have hlen := AL.length_del hp hi.nodup
  have z1 := hf.size
  refine hJ (m - 1) _ _ (by omega) ⟨AL.del todo p.1, rhk.set (p.1 - 1).toNat y, val', by omega, (hi2.fr (Fr.pu hp25 : Fr (RV d) w2 w5) nRV2 nRV).fr hf6 nRV2 nRV, hD6, ?_, ?_, fun k v hk => ?_⟩
  ·exact ((hf.trans hf2 fun i hi _ => .inr hi).trans (Fr.pu hp25 : Fr (fun b => RV d b ∨ b = w.heap.size) w2 w5) fun i hi _ => hi).trans hf6 fun i hi _ => .inl hi
  ·have e3 : (toR valk p.2.1, toR valk p.2.2) = (toR val p.2.1, toR val p.2.2) := congrArg Prod.snd ep
   have h7 : zQc { d with rh := rhk.set (p.1 - 1).toNat y } val' = { zQc { d with rh := rhk } valk with recs := (zQc { d with rh := rhk } valk).recs.modify (p.1 - 1).toNat (zZl (toR valk p.2.1, toR valk p.2.2)) } := habs6
   rw [h7, habs, e3]
   have h8 := zYg (l := (zQc d val).recs) (ch := ((zQc d val).us u).ch) (i := (p.1 - 1).toNat) (k := p.1) (by omega) hi.nodup hg (C := (toR val p.2.1, toR val p.2.2)) (by rw [eCh, zZ2, hgc]; rfl)
   simp only [h8]
  ·rw [AL.get_del hi.nodup] at hk
   by_cases e : p.1 = k
   ·rw [if_pos e] at hk; cases hk
   ·rw [if_neg e] at hk; exact hT k v hk
end Go.Proofs.YtcihcbfcgjepfaaGreatDoor
/- Desks: Store, and leaving a row. No condition but those stated. -/
namespace Go.Proofs.YtcihcbfcgjepfaaGreatDoor
open Go.Sh Go.RowKit Tryz
variable {w w' : World} {d d' : zQq} {val : Nat -> List Val} {mu : Int}
def yQB (d : zQq) (u : Nat) (k : Int) : Bool := match d.lk k with
 | some v => !decide (v = (u : Int))
 | none => false
theorem yQt (d : zQq) (val : Nat -> List Val) (u : Nat) : zY9 (zQc d val) u = (d.ch u).any fun c => yQB d u c.1 := by
 show ((d.ch u).map (toC val)).any _ = _
 rw [List.any_map]; rfl
def StP (w : World) (d : zQq) (val : Nat -> List Val) (u : Nat) (force : Bool) : Rt := fun e w' => ∃ q : SV, e = .returned (.tuple #[.slice q.a q.len q.cap, .int .i64 (zXN u force (zQc d val))]) /\
 zJb w w' q (if zXN u force (zQc d val) = 0 then zJ3 u (zQc d val) else []) /\ ∃ d' val', zQ2 w w' d d' 1 val' /\ zQc d' val' = zZq u force (zQc d val)
theorem StP.bad (h : zQb w d 1 val) {u : Nat} {force : Bool} {w1 : World} (hp : Pu w w1) {n : Int} (hn : zXN u force (zQc d val) = n) (h0 : n ≠ 0) : StP w d val u force (.returned (.tuple #[.slice none 0 0, .int .i64 n])) w1 :=
 ⟨⟨none, 0, 0⟩, by rw [hn], by rw [hn, if_neg h0]; exact zJb.nil _ _, d, val, zQ2.pu h hp, by rw [zZq, hn, if_neg h0]⟩
theorem zWw (h : zQb w d 1 val) (hI : Inv (zQc d val)) {u : Nat} (hu : u < 4) {force : Bool} (hc : ¬ (force = false /\ zJA (zQc d val) u ≠ [])) {w1 : World} (hp1 : Pu w w1) :
  ∃ m30 : Option Nat, w1.cell? ((uA d u).add 2) = some (.map m30) /\ ∃ p31 : Option Addr, ∃ w45 : World, (Instr.range 88 (.map m30)).run prog w1 = .ok (.pointer p31) w45 /\ yQg (StP w d val u force) (some ⟨d.S, 0, none⟩) (u : Int) (some (uA d u)) p31 [] w45 := by
 have h1 := h.pu hp1
 obtain ⟨w2, hrun, hi2, hp2, hs2⟩ := (h1.mp hu).range (P := prog) yYz
 refine ⟨some (d.C u), h1.uCh hu, _, w2, hrun, ?_⟩
 have eC : zXN u force (zQc d val) = if zY9 (zQc d val) u = true then 12 else 0 := by rw [zXN, if_neg hc]
 obtain ⟨l, hl, hk⟩ := h1.lm
 have zC := (h1.mp hu).lt
 have zL := hl.lt
 refine zWW (d.ch u).length (fun m _ w' => ∃ todo : List Chg, todo.length = m /\ zQD w' zXp chV w1.heap.size (d.C u) (d.ch u) todo /\ Pu w1 w' /\ (∀ k v, AL.get todo k = some v -> AL.get (d.ch u) k = some v) /\ (∀ p ∈ d.ch u, (AL.get todo p.1).isSome = true ∨ yQB d u p.1 = false))
  ⟨d.ch u, rfl, hi2, hp2, fun _ _ h => h, fun p hp => .inl (by rw [AL.get_of_mem (h1.mp hu).nodup (v := p.2) hp]; rfl)⟩ ?_
 rintro m J s w3 ⟨todo, hm, hi, hp3, hT, hB⟩ hJ
 rcases hi.next (P := prog) 0 with ⟨h0, hr⟩ | ⟨p, hp, w4, hr, hf4, hs4, hi4, hen⟩
 ·left
  refine ⟨w3, hr, ?_⟩
  have hb : zY9 (zQc d val) u = false := by
   rw [yQt, List.any_eq_false]
   intro p hp
   rcases hB p hp with h2 | h2
   ·rw [h0] at h2; cases h2
   ·rw [h2]; simp
  rw [hb] at eC
  have eC : zXN u force (zQc d val) = 0 := eC
  refine zYu (h1.pu hp3) hI hu fun w' q d' val' hN hL habs => ?_
  exact ⟨q, by rw [eC], by rw [eC, if_pos rfl]; exact hN.low (hp1.trans hp3).size, d', val', (zQ2.pu h (hp1.trans hp3)).trans hL, by rw [habs, zZq, eC, if_pos rfl]⟩
 ·right
  have hg : AL.get todo p.1 = some p.2 := AL.get_of_mem hi.nodup hp
  have hpm : p ∈ d.ch u := AL.get_mem (hT _ _ hg)
  have hp14 : Pu w1 w4 := hp3.andNew hf4 fun i hi => by rw [show i = w1.heap.size from hi]; exact Nat.le_refl _
  have hlen := AL.length_del hp hi.nodup
  refine ⟨_, _, w4, hr, _, _, w4, hen, some d.L, (h1.pu hp14).locks, _, _, w4, yJt (hl.pu hp14) p.1, ?_⟩
  have goOn : yQB d u p.1 = false -> J () w4 := fun hb => by
   refine hJ (m - 1) _ _ (by omega) ⟨AL.del todo p.1, by omega, hi4, hp14, fun k v hk => ?_, fun q hq => ?_⟩
   ·rw [AL.get_del hi.nodup] at hk
    by_cases e : p.1 = k
    ·rw [if_pos e] at hk; cases hk
    ·rw [if_neg e] at hk; exact hT k v hk
   ·rw [AL.get_del hi.nodup]
    by_cases e : p.1 = q.1
    ·right; rw [← e]; exact hb
    ·rw [if_neg e]; exact hB q hq
  refine Br.of (fun c1 => ?_) (fun c1 => ?_)
  ·obtain ⟨v, hv⟩ := Option.isSome_iff_exists.1 c1
   have hv' := hv
   rw [hk] at hv'
   rw [hv]
   refine Br.of (fun c2 => ?_) (fun c2 => ?_)
   ·have c2 : v ≠ (u : Int) := zQ5 c2
    have hb : zY9 (zQc d val) u = true := by
     rw [yQt, List.any_eq_true]
     exact ⟨p, hpm, by unfold yQB; rw [hv']; simp [c2]⟩
    rw [hb] at eC
    exact StP.bad h (hp1.trans hp14) (n := 12) eC (by decide)
   ·have c2 : v = (u : Int) := zQv c2
    exact goOn (by unfold yQB; rw [hv']; simp [c2])
  ·have hv : AL.get l p.1 = none := by simpa using c1
   rw [hk] at hv
   exact goOn (by unfold yQB; rw [hv])
theorem yZm (h : zQb w d 1 val) (hI : Inv (zQc d val)) {u : Nat} (hu : u < 4) (force : Bool) :
  Calls prog 55 #[d.ptr, .int .i64 (u : Int), .pointer (some (uA d u)), .bool force] w (StP w d val u force) := by
 refine yJX _ _ _ _ w _ (Br.of (fun c => ?_) (fun c => ?_))
 ·have c : force = false := by simpa using c
  refine (yQU h hI hu).mono ?_
  rintro e w1 ⟨q, rfl, hN, hp1⟩
  have hql := hN.len
  rw [List.length_map] at hql
  refine ⟨q, rfl, Br.of (fun c1 => ?_) (fun c1 => ?_)⟩
  ·have c1 := zQn c1
   have hne : zJA (zQc d val) u ≠ [] := List.length_pos_iff.1 (by omega)
   exact StP.bad h hp1 (n := 13) (by rw [zXN, if_pos ⟨c, hne⟩]) (by decide)
  ·have c1 := zQg c1
   have he : zJA (zQc d val) u = [] := List.eq_nil_of_length_eq_zero (by omega)
   exact zWw h hI hu (fun e => e.2 he) hp1
 ·have c : force = true := by simpa using c
  exact zWw h hI hu (fun e => by rw [c] at e; cases e.1) (Pu.refl w)
theorem zWN (h : zQb w d 0 val) (hI : Inv (zQc d val)) (u : Int) (force : Bool) :
  Calls prog 17 #[d.ptr, .int .i64 u, .bool force] w fun e w' => ∃ q : SV, e = .returned (.tuple #[.slice q.a q.len q.cap, .int .i64 (storeE u force (zQc d val))]) /\ zJb w w' q (zKN u force (zQc d val)) /\ ∃ d' val', zQ2 w w' d d' 0 val' /\ zQc d' val' = zQY u force (zQc d val) := by
 refine yKb _ u force w _ ((zX1 h (Pu.refl w) u).mono ?_)
 rintro e w2 ⟨rfl, h2, hf2, hs2⟩
 refine ⟨_, _, _, rfl, Br.of (fun c => ?_) (fun c => ?_)⟩
 ·have hu := yQE c
  have e1 : uC u = 1 := by rw [uC, if_neg hu]
  have e2 : storeE u force (zQc d val) = 1 := by rw [storeE, if_neg hu]
  exact h2.left fun w' hL _ _ => ⟨⟨none, 0, 0⟩, by rw [e1, e2], by rw [zKN, e2, if_neg (by decide)]; exact zJb.nil _ _, d, val, hL, by rw [zQY, if_neg hu]⟩
 have hu := yXs c
 obtain ⟨n, rfl, hn⟩ := zJO hu
 rw [yXE hn]
 refine (yZm h2.at_ hI hn force).mono ?_
 rintro e w3 ⟨q, rfl, hN, d', val', hL, habs⟩
 refine ⟨q, _, rfl, ?_⟩
 have LL := h2.dl.trans hL
 have hN0 : zJb w w3 q _ := hN.low h2.fr.size
 have e2 : storeE (n : Int) force (zQc d val) = zXN n force (zQc d val) := by rw [storeE, if_pos hu, zZa]
 rw [← show d'.ptr = d.ptr by unfold zQq.ptr; rw [hL.ptr]]
 refine zXo LL fun w' hL' hf _ => ⟨q, by rw [e2], ?_, d', val', hL', by rw [habs, zQY, if_pos hu, zZa]⟩
 rw [zKN, e2, zZa]
 exact hN0.fr hf fun b hb e => by
  have h1 := h.bd.out (hN0.2 b hb)
  have h3 : d'.S = d.S := hL.ptr
  rw [show b = d'.S from e, h3, h.bd.oS] at h1; cases h1
theorem yWg (h : zQb w d 1 val) (hI : Inv (zQc d val)) {u : Nat} (hu : u < 4) :
  Calls prog 50 #[d.ptr, .int .i64 (u : Int), .pointer (some (uA d u))] w fun e w' => e = .returned (.int .i64 (zXy u (zQc d val))) /\ ∃ d' val', zQ2 w w' d d' 1 val' /\ zQc d' val' = zXi u (zQc d val) := by
 have no : ((zQc d val).us u).rows = false ∨ ((zQc d val).us u).emp = true -> Ending.returned (.int .i64 0) = .returned (.int .i64 (zXy u (zQc d val))) /\ ∃ d' val', zQ2 w w d d' 1 val' /\ zQc d' val' = zXi u (zQc d val) := fun hc =>
  ⟨by rw [zXy, if_pos hc], d, val, zQ2.refl h, by rw [zXi, if_pos hc]⟩
 refine yXW _ _ _ w _ (Calls.mono (yKx h hu) ?_)
 rintro e w1 ⟨rfl, rfl⟩
 refine ⟨_, rfl, Br.of (fun c => ?_) (fun c => ?_)⟩
 ·exact no (.inl (by simpa using c))
 have c : ((zQc d val).us u).rows = true := by simpa using c
 refine Calls.mono (zVN h hu) ?_
 rintro e w2 ⟨rfl, rfl⟩
 refine ⟨_, rfl, Br.of (fun c1 => ?_) (fun c1 => ?_)⟩
 ·exact no (.inr c1)
 have hno : ¬ (((zQc d val).us u).rows = false ∨ ((zQc d val).us u).emp = true) := by rw [c, c1]; simp
 refine Calls.mono (yZm h hI hu false) ?_
 rintro e w3 ⟨q, rfl, hN, d', val', hL, habs⟩
 exact ⟨q, _, rfl, by rw [zXy, if_neg hno], d', val', hL, by rw [habs, zXi, if_neg hno]⟩
end Go.Proofs.YtcihcbfcgjepfaaGreatDoor
