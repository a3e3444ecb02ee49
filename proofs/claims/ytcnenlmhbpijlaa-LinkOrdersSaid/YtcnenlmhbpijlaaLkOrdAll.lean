import Derived.Test.YtcnenlmhbpijlaaLkReachAll
import Derived.Test.YtcnenlmhbpijlaaLkForders
import Derived.Sort.Walk0
/- The library's iterator over the keys of one more map. No condition but the reach's. -/
set_option maxRecDepth 100000
set_option linter.unusedVariables false
set_option linter.unusedSectionVars false
set_option linter.unusedSimpArgs false
namespace Go.Proofs.Ytcnenlmhbpijlaa
open Go.RowKit Go.Shelf Go.Sh

theorem keys_und_57 : ∃ e, Try.prog.underlying 57 = some (.map 9 e) := ⟨64, by kernel_rfl⟩
set_option maxHeartbeats 2000000 in
theorem keys1_in_106 {ν : Type} {ev : ν → Value} (F : Fence) (n : Nat) (h10 : F.fn 106) (hro : F.round = none) (hn : 1 ≤ n) (l Bs n₀ b : Nat) (L : List (ByteArray × ν)) (hb : b < n₀) (J Jx : List ByteArray → World → Prop)
    (W : World) (hn₀ : n₀ ≤ W.heap.size) (hJ : AbidesFrom W.heap.size J)
    (hY : ∀ pre x W1, J pre W1 → pre.length < L.length → YieldAt F (n - 1) Try.prog l #[.string x] W1 fun e W' =>
      (e = .returned (.bool true) ∧ J (pre ++ [x]) W' ∧ KeepB n₀ W1 W') ∨ (e = .returned (.bool false) ∧ Jx (pre ++ [x]) W'))
    (hBs : W.cell? ⟨Bs, 0, none⟩ = some (.map (some b))) (hM : MapAt W (fun s : ByteArray => Value.string s) ev b L) (h0 : J [] W) :
    CallsIn F n Try.prog 106 #[.func (.yield l) #[] #[], .pointer (some ⟨Bs, 0, none⟩)] W fun e W' => (∃ v, e = .returned v) ∧
      ((∃ ys, ys.Perm (L.map Prod.fst) ∧ J ys W') ∨ (∃ pre, True ∧ Jx pre W')) := by
  obtain ⟨et, hund⟩ := keys_und_57
  refine callsIn_of_wp Try.func106 rfl h10 ?_ hro
  simp only [Try.ntmps106, List.size_toArray, List.length_cons, List.length_nil, Nat.reduceAdd, Nat.reduceSub, Array.replicate_succ, Array.replicate_zero, List.push_toArray, List.append_toArray, List.nil_append, List.cons_append]
  gi_wp2_with (first
    | (gi_at_range; refine wpListIn_range_at rfl _ 57 9 et rfl hund b L rfl hM ?_; intro w0 hI0 hp0 hs0)
    | gi_in)
  go_frame
  gi_loopw [3] (fun _ wr => ∃ (todo : List (ByteArray × ν)) (ss : List ByteArray), IterAt wr (fun s : ByteArray => Value.string s) ev W.heap.size b L todo ∧ (ss ++ todo.map Prod.fst).Perm (L.map Prod.fst) ∧ J ss wr ∧ n₀ ≤ wr.heap.size)
    (fun _ wr => leftAt W.heap.size b wr)
  case atStart =>
    exact ⟨L, [], hI0, by simp, hJ [] W w0 none h0 (grown_of_pu hp0) (fun r e => by cases e), by omega⟩
  case round =>
    obtain ⟨todo, ss, hI, hperm, hJs, hnr⟩ := hrel
    gi_wp2_with (first
      | (gi_at_next; refine wpListIn_next_at rfl _ rfl b W.heap.size L todo rfl hI ?_ ?_)
      | gi_in)
    · intro ht0
      subst ht0
      gi_wp2
      go_end0
      exact ⟨⟨_, rfl⟩, .inl ⟨ss, by simpa using hperm, hJs⟩⟩
    · intro x c w2 hp hf hs hI2 hen
      have hJ2 : J ss w2 := hJ ss wr w2 (some W.heap.size) hJs (grown_of_fr hf) (fun r e => by cases e; exact ⟨Nat.le_refl _, iter_walk hI⟩)
      have hpd := AL.perm_del hp hI.nodup
      have hlen : ss.length < L.length := by
        have h1 := hperm.length_eq
        have h2 := hpd.length_eq
        simp at h1 h2
        omega
      obtain ⟨fn, tmps, assign, body, hy, hR⟩ := hY ss x w2 hJ2 hlen
      have hleft := leftAt_eq hI
      clear hs
      gi_wp2
      refine hR.mono ?_
      rintro e W3 (⟨rfl, hJ3, hB3, hK3⟩ | ⟨rfl, hJx3⟩)
      · gi_wp2
        have hI3 := iter_walks hI2 hK3 (hB3.block b hb)
        go_roundw
        case rel =>
          refine ⟨_, ss ++ [x], hI3, ?_, hJ3, by have := hf.size; have := hB3.size; omega⟩
          have h3 := hpd.map Prod.fst
          rw [List.append_assoc]
          exact ((List.Perm.append_left ss h3).symm).trans hperm
        case measure =>
          have h1 := leftAt_eq hI3
          have h2 := hpd.length_eq
          simp at h2
          omega
      · gi_wp2
        refine bodyPost_ret (results_none rfl _ _ _) rfl ?_
        exact ⟨⟨_, rfl⟩, .inr ⟨ss ++ [x], trivial, hJx3⟩⟩

theorem keys_stops_106 {ν : Type} {ev : ν → Value} (F : Fence) (n : Nat) (h10 : F.fn 106) (hro : F.round = none) (hn : 1 ≤ n) (Bs b : Nat) (L : List (ByteArray × ν)) (w : World) (hBs : Bs < w.heap.size)
    (hc : w.cell? ⟨Bs, 0, none⟩ = some (.map (some b))) (hM : MapAt w (fun s : ByteArray => Value.string s) ev b L) :
    SeqStopsK F n Try.prog 106 #[.pointer (some ⟨Bs, 0, none⟩)] (fun x : ByteArray => #[Value.string x]) (KeepB w.heap.size) (fun ys => ys.Perm (L.map Prod.fst)) (fun _ => True) L.length w := fun l J Jx W hW hJ _ hY h0 => by
  have hM' : MapAt W (fun s : ByteArray => Value.string s) ev b L := by
    have hbl := hM.lt
    obtain ⟨es, clk, h1, h2⟩ := hM
    exact ⟨es, clk, (hW.block b hbl).trans h1, h2⟩
  exact keys1_in_106 F n h10 hro hn l Bs w.heap.size b L hM.lt J Jx W hW.size hJ hY ((hW.cell (p := ⟨Bs, 0, none⟩) hBs).trans hc) hM' h0

/-- slices.Sorted(maps.Keys(m)): the keys, in order. -/
theorem sortedKeys_106 {ν : Type} {ev : ν → Value} (w0 : World) (b : Nat) (L : List (ByteArray × ν)) (hM : MapAt w0 (fun s : ByteArray => Value.string s) ev b L) (hN : L.length ≤ 8796093022208) :
    Calls Try.prog 64 #[.func (.func 106) #[] #[.pointer (some ⟨w0.heap.size, 0, none⟩)]] (w0.alloc (.cells #[.map (some b)] 57)) fun e w' => ∃ s' : SV, e = .returned (.slice s'.a s'.len s'.cap) ∧ RowAt w' 9 1 s' (strV (srt (L.map Prod.fst))) ∧ (∀ k ∈ blkOf s', w0.heap.size < k) ∧ Pu w0 w' := by
  obtain ⟨w, hw⟩ : ∃ w, w = w0.alloc (.cells #[.map (some b)] 57) := ⟨_, rfl⟩
  have hp : Pu w0 w := by rw [hw]; exact Pu.alloc w0 _
  have hsz : w.heap.size = w0.heap.size + 1 := by rw [hw]; simp
  have hb : w.heap[w0.heap.size]? = some (.cells #[.map (some b)] 57) := by rw [hw]; exact alloc_new w0 _
  rw [← hw]
  have hseq := keys_stops_106 Fence.wide 9 trivial rfl (by omega) w0.heap.size b L w (by omega) (by rw [cell_blk hb]; rfl) (hM.pu hp)
  refine Calls.mono (sorted_c 106 #[.pointer (some ⟨w0.heap.size, 0, none⟩)] (enters_of Try.func106 (by kernel_rfl) rfl) _ _ L.length hN w (fun xs h => by have := h.length_eq; simp at this; omega) hseq) ?_
  rintro e w' ⟨s', xs, rfl, hxs, hrow, hf, hp'⟩
  rw [srt_congr hxs] at hrow
  exact ⟨s', rfl, hrow, fun k hk => by have := hf k hk; omega, hp.trans hp'⟩
end Go.Proofs.Ytcnenlmhbpijlaa

/- Link: in which order procedures stand behind what they call: the program's Order and the reference's. No condition but the reach's. -/
set_option maxRecDepth 100000
set_option linter.unusedVariables false
set_option linter.unusedSimpArgs false
namespace Go.Proofs.Ytcnenlmhbpijlaa
open Go.Sh Go.RowKit

def readyB (D : List PDat) (out : List ByteArray) (x : ByteArray) : Bool := !has out x && !((getD D x).2.any fun c => !has out c)
def orderGo (D : List PDat) (N : List ByteArray) : Nat → List ByteArray → Option (List ByteArray)
  | 0, out => some out
  | k + 1, out => match N.find? (readyB D out) with
    | none => none
    | some x => orderGo D N k (out ++ [x])
def namesS (l : List Mod) : List ByteArray := srt ((PL l).map Prod.fst)
def orderO (l : List Mod) : Option (List ByteArray) := orderGo (PL l) (namesS l) (namesS l).length []
def orderR (l : List Mod) : List ByteArray × Bool × Int := if openE l = 0 then (match orderO l with
    | some o => (o, true, 0)
    | none => ([], false, 0)) else ([], false, openE l)
theorem namesS_len (l : List Mod) : (namesS l).length = (PL l).length := by rw [namesS, srt_length, List.length_map]
theorem keys57_c (w : World) (m : Option Nat) : Calls Try.prog 77 #[.map m] w fun e w' => e = .returned (.func (.func 106) #[] #[.pointer (some ⟨w.heap.size, 0, none⟩)]) ∧ w' = w.alloc (.cells #[.map m] 57) := by
  refine F77_calls m w _ ?_
  exact alE_intro fun w' hw' => ⟨rfl, hw'⟩

theorem seen81_c (w : World) (r8 r19 : Nat) (out : List ByteArray) (h8 : w.heap[r8]? = some (.cells #[.map (some r19)] 82)) (hS : SetAt w r19 out) (c : ByteArray) :
    Calls Try.prog 81 #[.string c, .pointer (some ⟨r8, 0, none⟩)] w fun e w' => e = .returned (.bool (!has out c)) ∧ Pu w w' := by
  refine F81_calls c _ w _ ?_
  exact ⟨some r19, by rw [cell_blk h8]; rfl, _, w, hS.look c, rfl, Pu.refl w⟩
theorem ready79_c (w : World) (r5 r8 r19 b : Nat) (L : List PRow) (D : List PDat) (out : List ByteArray) (h8 : w.heap[r8]? = some (.cells #[.map (some r19)] 82)) (h5 : w.heap[r5]? = some (.cells #[.map (some b)] 57)) (hS : SetAt w r19 out) (hM : MapAt w ekS evP b L) (hR : RdP w L D) (x : ByteArray) :
    Calls Try.prog 79 #[.string x, .pointer (some ⟨r8, 0, none⟩), .pointer (some ⟨r5, 0, none⟩)] w fun e w' => e = .returned (.bool (readyB D out x)) ∧ Pu w w' := by
  refine F79_calls x _ _ w _ ?_
  refine ⟨some r19, by rw [cell_blk h8]; rfl, _, w, hS.look x, ?_⟩
  refine Br.of (fun h => ?_) (fun h => ?_)
  · have h : has out x = false := by simpa using h
    obtain ⟨_, _, hrd⟩ := hR.get x
    refine ⟨some b, by rw [cell_blk h5]; rfl, _, _, w, (look57 hM x).2, ?_⟩
    refine Calls.mono (containsFunc_strs w (getL L x).2 (getD D x).2 hrd 81 #[.pointer (some ⟨r8, 0, none⟩)] (fun c => !has out c) (by kernel_rfl) fun w' c _ hp => seen81_c w' r8 r19 out (hp.blk h8) (hS.pu hp) c) ?_
    rintro e w' ⟨rfl, hp⟩
    exact ⟨_, rfl, by simp [readyB, h], hp⟩
  · have h : has out x = true := by simpa using h
    exact ⟨by simp [readyB, h], Pu.refl w⟩

set_option maxHeartbeats 1000000 in
theorem order_c (w : World) (s : SV) (l : List Mod) (hl : RdSl w s l) (hL : Lim.ok l) : Calls Try.prog 39 #[.slice s.a s.len s.cap] w fun e w' => ∃ t : SV, e = .returned (.tuple #[.slice t.a t.len t.cap, .bool (orderR l).2.1, .int .i64 (orderR l).2.2]) ∧ RdSl w' t (orderR l).1 ∧ Pu w w' := by
  refine F39_calls s w _ ?_
  refine Calls.mono (open_c w s l hl hL) ?_
  rintro e w1 ⟨m, rfl, hp1, hO⟩
  refine ⟨m, _, rfl, ?_⟩
  refine alE_intro fun w2 hw2 => ?_
  have hp2 : Pu w1 w2 := by rw [hw2]; exact Pu.alloc w1 _
  have z2 : w2.heap.size = w1.heap.size + 1 := by rw [hw2]; simp
  have hb2 : w2.heap[w1.heap.size]? = some (.cells #[.map none] 57) := by rw [hw2]; exact alloc_new w1 _
  refine st1_intro hb2 (by show 0 < 1; omega) fun w3 hw3 hb3 => ?_
  have hf3 : Fr (· = w1.heap.size) w2 w3 := by rw [hw3]; exact Fr.cell w2 _ _ _
  have hp3 : Pu w1 w3 := Pu.andNew hp2 hf3 fun i hi => by have hi : i = _ := hi; omega
  have z3 : w3.heap.size = w2.heap.size := by rw [hw3]; simp
  have hb3 : w3.heap[w1.heap.size]? = some (.cells #[.map m] 57) := hb3
  refine Br.of (fun h1 => ?_) (fun h1 => ?_)
  · have h1 : openE l ≠ 0 := by simpa using h1
    exact ⟨⟨none, 0, 0⟩, by rw [orderR, if_neg h1], by rw [orderR, if_neg h1]; exact RdSl.nil w3 none 0, hp1.trans hp3⟩
  have h1 : openE l = 0 := by simpa using h1
  obtain ⟨b, L, rfl, hM, hR⟩ := hO h1
  have hF := fits_of (open_valid h1)
  refine alE_intro fun w4 hw4 => alE_intro fun w5 hw5 => ?_
  have hp4 : Pu w3 w4 := by rw [hw4]; exact Pu.alloc w3 _
  have hp5 : Pu w4 w5 := by rw [hw5]; exact Pu.alloc w4 _
  have z4 : w4.heap.size = w3.heap.size + 1 := by rw [hw4]; simp
  have z5 : w5.heap.size = w4.heap.size + 1 := by rw [hw5]; simp
  have hS4 : SetAt w4 w3.heap.size [] := by rw [hw4]; exact SetAt.new w3
  have hb5 : w5.heap[w4.heap.size]? = some (.cells #[.map none] 82) := by rw [hw5]; exact alloc_new w4 _
  refine st1_intro hb5 (by show 0 < 1; omega) fun w6 hw6 hb6 => ?_
  have hf6 : Fr (· = w4.heap.size) w5 w6 := by rw [hw6]; exact Fr.cell w5 _ _ _
  have z6 : w6.heap.size = w5.heap.size := by rw [hw6]; simp
  have hb6 : w6.heap[w4.heap.size]? = some (.cells #[.map (some w3.heap.size)] 82) := hb6
  have hp6 : Pu w1 w6 := Pu.andNew ((hp3.trans hp4).trans hp5) hf6 fun i hi => by have hi : i = _ := hi; omega
  have hb3' := hf6.blk (hp5.blk (hp4.blk hb3)) (by show ¬ _ = _; omega)
  have hS6 : SetAt w6 w3.heap.size [] := (hS4.pu hp5).fr hf6 (by show ¬ _ = _; omega)
  refine ⟨some b, by rw [cell_blk hb3']; rfl, ?_⟩
  refine Calls.mono (keys57_c w6 (some b)) ?_
  rintro e w7 ⟨rfl, rfl⟩
  refine ⟨_, rfl, ?_⟩
  have hpl : (PL l).length ≤ 100 := by rw [PL_len hF.callsL]; exact hF.procs
  have hkeys := hR.keys
  have hLl : L.length ≤ 100 := by have := congrArg List.length hkeys; simp at this; omega
  refine Calls.mono (sortedKeys_106 w6 b L (hM.pu hp6) (by omega)) ?_
  rintro e w8 ⟨l9, rfl, hrow9, hf9, hp8⟩
  rw [hkeys] at hrow9
  have hrow9 : RowAt w8 9 1 l9 (strV (namesS l)) := hrow9
  have hnl := namesS_len l
  have hN := rd_of_row hrow9 (by omega)
  have hl9 := hN.len
  refine ⟨l9, rfl, ?_⟩
  have hR0 : orderR l = match orderO l with
    | some o => (o, true, 0)
    | none => ([], false, 0) := by rw [orderR, if_pos h1]
  have hs68 := hp8.size
  refine loopUp (namesS l).length (fun k t w' => ∃ out : List ByteArray, out.length = k ∧ orderO l = orderGo (PL l) (namesS l) ((namesS l).length - k) out ∧ SetAt w' w3.heap.size out ∧ RowAt w' 9 1 t (strV out) ∧ (∀ i ∈ blkOf t, w8.heap.size ≤ i) ∧ Pu w1 w' ∧ RowAt w' 9 1 l9 (strV (namesS l)) ∧ w'.heap[w4.heap.size]? = some (.cells #[.map (some w3.heap.size)] 82) ∧ w'.heap[w1.heap.size]? = some (.cells #[.map (some b)] 57) ∧ w8.heap.size ≤ w'.heap.size)
    ⟨[], rfl, rfl, hS6.pu hp8, RowAt.nil _ _ _, by simp [blkOf], hp6.trans hp8, hrow9, hp8.blk hb6, hp8.blk hb3', Nat.le_refl _⟩ ?_
  rintro k J l7 w9 hk ⟨out, hol, hord, hS9, hr7, hf7, hp9, hr9, h84, h51, hz9⟩ hJ
  have hl7 : l7.len = out.length := by have := hr7.1; simp at this; omega
  have hN9 := rd_of_row hr9 (by omega)
  refine Br.of (fun hlt => ?_) (fun hge => ?_)
  · have hlt' : k < (namesS l).length := by have := dtrue hlt; omega
    rw [show (namesS l).length - k = ((namesS l).length - (k + 1)) + 1 by omega, orderGo] at hord
    refine Calls.mono (indexFunc_strs w9 l9 (namesS l) hN9 79 #[.pointer (some ⟨w4.heap.size, 0, none⟩), .pointer (some ⟨w1.heap.size, 0, none⟩)] (readyB (PL l) out) (by kernel_rfl) fun w' x _ hp => ready79_c w' w1.heap.size w4.heap.size w3.heap.size b L (PL l) out (hp.blk h84) (hp.blk h51) (hS9.pu hp) (hM.pu (hp9.trans hp)) (hR.pu (hp9.trans hp)) x) ?_
    rintro e w10 ⟨rfl, hp10⟩
    refine ⟨_, rfl, ?_⟩
    refine Br.of (fun h => ?_) (fun h => ?_)
    · have h := dtrue h
      have hnone : (namesS l).find? (readyB (PL l) out) = none := by
        cases hf : (namesS l).find? (readyB (PL l) out) with
        | none => rfl
        | some x =>
          have : (namesS l).any (readyB (PL l) out) = true := List.any_eq_true.2 ⟨x, List.mem_of_find?_eq_some hf, List.find?_some hf⟩
          rw [idxF, if_pos this] at h
          omega
      rw [hnone] at hord
      refine ⟨⟨none, 0, 0⟩, by rw [hR0, hord], by rw [hR0, hord]; exact RdSl.nil w10 none 0, (hp1.trans hp9).trans hp10⟩
    · have h := dfalse h
      have hany : (namesS l).any (readyB (PL l) out) = true := by
        cases hb : (namesS l).any (readyB (PL l) out) with
        | true => rfl
        | false => rw [idxF, hb] at h; simp at h
      have hidx : idxF (readyB (PL l) out) (namesS l) = (((namesS l).findIdx (readyB (PL l) out) : Nat) : Int) := by rw [idxF, if_pos hany]
      generalize hi : (namesS l).findIdx (readyB (PL l) out) = i at hidx
      have hil : i < (namesS l).length := by
        rw [← hi]
        obtain ⟨x, hx, hr⟩ := List.any_eq_true.1 hany
        exact List.findIdx_lt_length_of_exists ⟨x, hx, hr⟩
      obtain ⟨x, hx⟩ := at_k hil
      have hfind : (namesS l).find? (readyB (PL l) out) = some x := by
        rw [List.find?_eq_getElem?_findIdx, hi, hx]
      have hrdy : readyB (PL l) out x = true := List.find?_some hfind
      rw [hfind] at hord
      have hno : has out x = false := by
        unfold readyB at hrdy
        simp at hrdy
        exact hrdy.1
      refine dwE_intro fun w11 hp11 hh11 => ?_
      have hp911 := hp10.trans hp11
      obtain ⟨a6, ha6, hi6, hc6⟩ := (hN9.pu hp911).str hx
      refine ⟨some w3.heap.size, by rw [cell_blk (hp911.blk h84)]; rfl, a6, ha6, by omega, by omega, x, by rw [hidx, Int.toNat_natCast]; exact hc6, ?_⟩
      obtain ⟨w12, hrun, hS12, hf12, hs12⟩ := (hS9.pu hp911).add x
      rw [hno] at hS12
      have hS12 : SetAt w12 w3.heap.size (out ++ [x]) := hS12
      refine ⟨w12, hrun, ?_⟩
      have hp12 : Pu w1 w12 := Pu.andNew (hp9.trans hp911) hf12 fun i hi => by have hi : i = _ := hi; omega
      have hr9' := (hr9.pu hp911).fr hf12 fun i hi h => by have h : i = _ := h; have := hf9 i hi; omega
      have hN12 := rd_of_row hr9' (by omega)
      obtain ⟨a8, ha8, hi8, hc8⟩ := hN12.str hx
      refine ⟨a8, ha8, by omega, by omega, x, by rw [hidx, Int.toNat_natCast]; exact hc8, ?_⟩
      refine alE_intro fun w13 hw13 => ?_
      have hp13 : Pu w12 w13 := by rw [hw13]; exact Pu.alloc w12 _
      have hn13 : w13.heap[w12.heap.size]? = some (.cells #[.string x] 9) := by rw [hw13]; exact alloc_new w12 _
      have hr7' := ((hr7.pu hp911).fr hf12 fun i hi h => by have h : i = _ := h; have := hf7 i hi; omega).pu hp13
      obtain ⟨l44, w14, hra, hrow14, hf14, hblk14, _⟩ := row_push (P := Try.prog) (ty := 23) (t := 23) u23 info_str rfl (s := l7) hr7' (a := ⟨w12.heap.size, 0, none⟩) (u := .string x) (by rw [cell_blk hn13]; rfl) rfl (by omega)
      refine ⟨l44, w14, hra, ?_⟩
      have hs911 := hp911.size
      have hs13 := hp13.size
      have hs14 := hf14.size
      have hlt9 := hrow9.lt
      refine hJ _ _ hlt' ⟨out ++ [x], by simp [hol], hord, (hS12.pu hp13).fr hf14 fun h => by have := hf7 _ h; omega, ?_, fun i hi => ?_, Pu.andNew (hp12.trans hp13) hf14 fun i hi => by have := hf7 i hi; omega, (hr9'.pu hp13).fr hf14 fun i hi h => by have := hf7 i h; have := hlt9 i hi; omega, hf14.blk (hp13.blk (hf12.blk (hp911.blk h84) (by show ¬ _ = _; omega))) fun h => by have := hf7 _ h; omega, hf14.blk (hp13.blk (hf12.blk (hp911.blk h51) (by show ¬ _ = _; omega))) fun h => by have := hf7 _ h; omega, by omega⟩
      · simpa [strV] using hrow14
      · rcases hblk14 i hi with h | h
        · exact hf7 i h
        · omega
  · have hge' : k = (namesS l).length := by have := dfalse hge; omega
    rw [hge', Nat.sub_self, orderGo] at hord
    refine ⟨l7, by rw [hR0, hord], by rw [hR0, hord]; exact rd_of_row hr7 (by show out.length ≤ _; omega), hp1.trans hp9⟩
end Go.Proofs.Ytcnenlmhbpijlaa

/- Link: the reference's Order. No condition but the reach's. -/
set_option maxRecDepth 100000
set_option linter.unusedVariables false
set_option linter.unusedSimpArgs false
namespace Go.Proofs.Ytcnenlmhbpijlaa
open Go.Sh Go.RowKit

theorem less_bLt (a b : ByteArray) : Op.bytesLess a.toList b.toList = bLt a b := by
  rw [Go.Proofs.bytesLess_eq, Lib.toList_data, Lib.toList_data]; rfl
/-- The first that is ready of what ascends is the least. -/
theorem find_least {p : ByteArray → Bool} {x : ByteArray} : ∀ {N : List ByteArray}, N.Pairwise (fun a b => bLt a b = true) → x ∈ N → p x = true → (∀ y ∈ N, p y = true → bLe x y = true) → N.find? p = some x
  | [], _, h, _, _ => by simp at h
  | h :: t, hN, hx, hp, hle => by
    rw [List.pairwise_cons] at hN
    by_cases hh : p h = true
    · rw [List.find?_cons_of_pos hh]
      rcases List.mem_cons.1 hx with rfl | hx
      · rfl
      · have h1 := hle h List.mem_cons_self hh
        have h2 := hN.1 x hx
        have := bLt_iff.1 h2
        rw [h1] at this; cases this
    · rw [List.find?_cons_of_neg hh]
      rcases List.mem_cons.1 hx with rfl | hx
      · exact absurd hp hh
      · exact find_least hN.2 hx hp fun y hy => hle y (List.mem_cons_of_mem _ hy)
theorem names_asc {l : List Mod} (hF : Fits l) : (namesS l).Pairwise fun a b => bLt a b = true := set_sorted (by rw [PL_keys hF.callsL]; exact hF.nodup)
theorem mem_names {l : List Mod} (hF : Fits l) {x : ByteArray} : x ∈ namesS l ↔ ∃ r ∈ RL l, r.name = x := by
  rw [namesS, mem_srt, ← RL_dat hF.sizes, List.map_map]
  exact List.mem_map
theorem name_full {l : List Mod} (hF : Fits l) {r : RP} (hr : r ∈ RL l) : 1 ≤ r.name.size := by
  unfold RL at hr
  obtain ⟨m, hm, hr⟩ := List.mem_flatMap.1 hr
  have h1 := hF.right m hm
  unfold rightB at h1
  simp only [Bool.and_eq_true, List.all_eq_true] at h1
  have hn : r.name ∈ m.procs := by
    unfold rpOf at hr
    obtain ⟨q, hq, rfl⟩ := List.mem_map.1 hr
    exact (List.of_mem_zip (List.of_mem_zip hq).1).1
  have h2 := h1.1.1.2 _ hn
  unfold nameB at h2
  simp at h2
  exact h2.1.2
theorem empty_of (s : ByteArray) : (s.toList == (⟨#[]⟩ : ByteArray).toList) = decide (s = noName) := beq_bytes' s noName

set_option maxHeartbeats 2000000 in
theorem rOrder_c (w : World) (s : SV) (l : List Mod) (hl : RdSl w s l) : Calls Try.prog 40 #[.slice s.a s.len s.cap] w fun e w' => ∃ t : SV, e = .returned (.tuple #[.slice t.a t.len t.cap, .bool (orderR l).2.1, .int .i64 (orderR l).2.2]) ∧ RdSl w' t (orderR l).1 ∧ Pu w w' := by
  refine F40_calls s w _ ?_
  refine Calls.mono (whole_c w s l hl) ?_
  rintro e w1 ⟨rfl, hp1⟩
  refine ⟨_, rfl, Br.of (fun h1 => ?_) (fun h1 => ?_)⟩
  · have h1 : openE l ≠ 0 := by simpa using h1
    exact ⟨⟨none, 0, 0⟩, by rw [orderR, if_neg h1], by rw [orderR, if_neg h1]; exact RdSl.nil w1 none 0, hp1⟩
  have h1 : openE l = 0 := by simpa using h1
  have hF := fits_of (open_valid h1)
  have hR0 : orderR l = match orderO l with
    | some o => (o, true, 0)
    | none => ([], false, 0) := by rw [orderR, if_pos h1]; first | done | (cases orderO l <;> rfl)
  refine Calls.mono (all_c w1 s l (hl.pu hp1) hF) ?_
  rintro e w2 ⟨t6, rfl, hR, hp2⟩
  refine ⟨t6, rfl, ?_⟩
  have hRl : (RL l).length ≤ 100 := by rw [RL_len hF]; exact hF.procs
  have hnl : (namesS l).length = (RL l).length := by rw [namesS_len, ← RL_dat hF.sizes, List.length_map]
  have hlen := hR.len
  refine alE_intro fun w3 hw3 => ?_
  have hp3 : Pu w2 w3 := by rw [hw3]; exact Pu.alloc w2 _
  have hS3 : SetAt w3 w2.heap.size [] := by rw [hw3]; exact SetAt.new w2
  have z3 : w3.heap.size = w2.heap.size + 1 := by rw [hw3]; simp
  have dat : ∀ r ∈ RL l, getD (PL l) r.name = (r.ov, r.calls) := fun r hr => by
    have hn := RL_names hF
    obtain ⟨k, hk⟩ := List.getElem?_of_mem hr
    have hin : isIn ((RL l).map RP.dat) r.name = true := by
      rw [← find_isIn, List.any_eq_true]; exact ⟨r, hr, by simp⟩
    obtain ⟨k', r', _, e2, e3, e4⟩ := findS_at hin
    rw [RL_dat hF.sizes] at e4
    have hkk : k = k' := by
      have a1 : ((RL l).map (·.name))[k]? = some r.name := by rw [List.getElem?_map, hk]; rfl
      have a2 : ((RL l).map (·.name))[k']? = some r.name := by rw [List.getElem?_map, e2]; simp [e3]
      exact (List.getElem?_inj (by simpa using (List.getElem?_eq_some_iff.1 hk).1) hn).1 (a1.trans a2.symm)
    subst hkk
    rw [hk] at e2; cases e2
    exact e4.symm
  refine loopUp (RL l).length (fun k t w' => ∃ out : List ByteArray, out.length = k ∧ orderO l = orderGo (PL l) (namesS l) ((RL l).length - k) out ∧ SetAt w' w2.heap.size out ∧ RowAt w' 9 1 t (strV out) ∧ (∀ i ∈ blkOf t, w3.heap.size ≤ i) ∧ Pu w2 w')
    ⟨[], rfl, by rw [orderO, hnl]; rfl, hS3, RowAt.nil _ _ _, by simp [blkOf], hp3⟩ ?_
  rintro k J l7 w4 hk ⟨out, hol, hord, hS4, hr7, hf7, hp4⟩ hJ
  have hl7 : l7.len = out.length := by have := hr7.1; simp at this; omega
  refine Br.of (fun hlt => ?_) (fun hge => ?_)
  · have hlt' : k < (RL l).length := by have := dtrue hlt; omega
    rw [show (RL l).length - k = ((RL l).length - (k + 1)) + 1 by omega, orderGo] at hord
    have hR4 := hR.pu hp4
    -- the least that is ready
    refine loopUp (RL l).length (fun i t w' => w' = w4 ∧ t.2 = (i : Int) ∧ ((t.1 = noName ∧ ∀ r ∈ (RL l).take i, readyB (PL l) out r.name = false) ∨ (t.1 ≠ noName ∧ (∃ r ∈ (RL l).take i, r.name = t.1) ∧ readyB (PL l) out t.1 = true ∧ ∀ r ∈ (RL l).take i, readyB (PL l) out r.name = true → bLe t.1 r.name = true)))
      ⟨rfl, rfl, .inl ⟨rfl, by simp⟩⟩ ?_
    rintro i J2 ⟨s9, t⟩ w5 hi ⟨rfl, ht, hbest⟩ hJ2
    obtain rfl : t = (i : Int) := ht
    have hbest : (s9 = noName ∧ ∀ r ∈ (RL l).take i, readyB (PL l) out r.name = false) ∨ (s9 ≠ noName ∧ (∃ r ∈ (RL l).take i, r.name = s9) ∧ readyB (PL l) out s9 = true ∧ ∀ r ∈ (RL l).take i, readyB (PL l) out r.name = true → bLe s9 r.name = true) := hbest
    dsimp only
    refine Br.of (fun hlt2 => ?_) (fun hge2 => ?_)
    · have hlt2' : i < (RL l).length := by have := dtrue hlt2; omega
      obtain ⟨r, hr⟩ := at_k hlt2'
      have hrm := List.mem_of_getElem? hr
      have hfull := name_full hF hrm
      obtain ⟨a, tc, ha, hia, htc, c0, c1, c2, c3⟩ := rpAt hR4 hr
      have htl := htc.len
      have htm := htc.lim
      have hd := dat r hrm
      refine ⟨a, ha, by omega, by omega, r.name, by simpa using c0, _, w5, hS4.look r.name, ?_⟩
      refine loopUp r.calls.length (fun j t w' => w' = w5 ∧ t.2 = (j : Int) ∧ t.1 = (!has out r.name && !((r.calls.take j).any fun c => !has out c))) ⟨rfl, rfl, by simp⟩ ?_
      rintro j J3 ⟨b11, t⟩ w6 hj ⟨rfl, ht, hb11⟩ hJ3
      obtain rfl : t = (j : Int) := ht
      have hb11 : b11 = (!has out r.name && !((r.calls.take j).any fun c => !has out c)) := hb11
      dsimp only
      refine ⟨a, ha, by omega, by omega, tc, by simpa using c3, Br.of (fun hlt3 => ?_) (fun hge3 => ?_)⟩
      · have hlt3' : j < r.calls.length := by have := dtrue hlt3; omega
        obtain ⟨c, hc⟩ := at_k hlt3'
        refine Br.of (fun h => ?_) (fun h => ?_)
        · obtain ⟨a11, ha11, hi11, hc11⟩ := htc.str hc
          refine ⟨a, ha, by omega, by omega, tc, by simpa using c3, a11, ha11, by omega, by omega, c, by simpa using hc11, _, w6, hS4.look c, ?_⟩
          rw [wrap_in (n := (j : Int) + 1) (by omega) (by omega)]
          refine hJ3 _ _ hlt3' ⟨rfl, rfl, ?_⟩
          show has out c = _
          rw [h] at hb11
          rw [take_at hc, List.any_append, Bool.not_or, ← Bool.and_assoc, ← hb11]
          simp
        · rw [wrap_in (n := (j : Int) + 1) (by omega) (by omega)]
          refine hJ3 _ _ hlt3' ⟨rfl, rfl, ?_⟩
          show false = _
          rw [h] at hb11
          rw [take_at hc, List.any_append, Bool.not_or, ← Bool.and_assoc, ← hb11]
          rfl
      · have hge3' : ¬ j < r.calls.length := by have := dfalse hge3; omega
        rw [take_end hj hge3'] at hb11
        have hb : b11 = readyB (PL l) out r.name := by rw [hb11, readyB, hd]
        have next : ∀ s' : ByteArray, ((s' = noName ∧ ∀ r ∈ (RL l).take (i + 1), readyB (PL l) out r.name = false) ∨ (s' ≠ noName ∧ (∃ r ∈ (RL l).take (i + 1), r.name = s') ∧ readyB (PL l) out s' = true ∧ ∀ r ∈ (RL l).take (i + 1), readyB (PL l) out r.name = true → bLe s' r.name = true)) → J2 (s', IntKind.i64.wrap ((i : Int) + 1)) w6 := fun s' h => by
          rw [wrap_in (n := (i : Int) + 1) (by omega) (by omega)]
          exact hJ2 _ _ hlt2' ⟨rfl, rfl, h⟩
        have hne : r.name ≠ noName := fun e => by rw [e] at hfull; exact absurd hfull (by decide)
        have mem1 : ∀ q, q ∈ (RL l).take (i + 1) ↔ q ∈ (RL l).take i ∨ q = r := fun q => by rw [take_at hr]; simp
        refine Br.of (fun h => ?_) (fun h => ?_)
        · rw [hb] at h
          rw [empty_of]
          refine Br.of (fun h2 => ?_) (fun h2 => ?_)
          · have h2 : s9 = noName := by simpa using h2
            refine ⟨a, ha, by omega, by omega, r.name, by simpa using c0, next _ (.inr ⟨hne, ⟨r, (mem1 r).2 (.inr rfl), rfl⟩, h, fun q hq hqr => ?_⟩)⟩
            rcases hbest with ⟨_, hno⟩ | ⟨hs, _⟩
            · rcases (mem1 q).1 hq with hq | rfl
              · rw [hno q hq] at hqr; cases hqr
              · exact bLe_refl _
            · exact absurd h2 hs
          · have h2 : s9 ≠ noName := by simpa using h2
            rcases hbest with ⟨hs, _⟩ | ⟨_, hex, hrd, hmin⟩
            · exact absurd hs h2
            refine ⟨a, ha, by omega, by omega, r.name, by simpa using c0, ?_⟩
            rw [less_bLt]
            refine Br.of (fun h3 => ?_) (fun h3 => ?_)
            · refine ⟨a, ha, by omega, by omega, r.name, by simpa using c0, next _ (.inr ⟨hne, ⟨r, (mem1 r).2 (.inr rfl), rfl⟩, h, fun q hq hqr => ?_⟩)⟩
              rcases (mem1 q).1 hq with hq | rfl
              · exact bLe_trans _ _ _ (bLt_le h3) (hmin q hq hqr)
              · exact bLe_refl _
            · refine next _ (.inr ⟨h2, ?_, hrd, fun q hq hqr => ?_⟩)
              · obtain ⟨q, hq, e⟩ := hex
                exact ⟨q, (mem1 q).2 (.inl hq), e⟩
              · rcases (mem1 q).1 hq with hq | rfl
                · exact hmin q hq hqr
                · cases hb2 : bLe s9 q.name with
                  | true => rfl
                  | false => rw [bLt_iff.2 hb2] at h3; cases h3
        · rw [hb] at h
          refine next _ ?_
          rcases hbest with ⟨hs, hno⟩ | ⟨hs, hex, hrd, hmin⟩
          · refine .inl ⟨hs, fun q hq => ?_⟩
            rcases (mem1 q).1 hq with hq | rfl
            · exact hno q hq
            · exact h
          · refine .inr ⟨hs, ?_, hrd, fun q hq hqr => ?_⟩
            · obtain ⟨q, hq, e⟩ := hex
              exact ⟨q, (mem1 q).2 (.inl hq), e⟩
            · rcases (mem1 q).1 hq with hq | rfl
              · exact hmin q hq hqr
              · rw [h] at hqr; cases hqr
    · have hge2' : ¬ i < (RL l).length := by have := dfalse hge2; omega
      rw [take_end hi hge2'] at hbest
      show Br _ _ _
      rw [empty_of]
      refine Br.of (fun h => ?_) (fun h => ?_)
      · have h : s9 = noName := by simpa using h
        rcases hbest with ⟨_, hno⟩ | ⟨hs, _⟩
        case inr => exact absurd h hs
        have hnone : (namesS l).find? (readyB (PL l) out) = none := by
          rw [List.find?_eq_none]
          intro x hx
          obtain ⟨r, hr, rfl⟩ := (mem_names hF).1 hx
          rw [hno r hr]; simp
        rw [hnone] at hord
        exact ⟨⟨none, 0, 0⟩, by rw [hR0, hord], by rw [hR0, hord]; exact RdSl.nil w5 none 0, (hp1.trans hp2).trans hp4⟩
      · have h : s9 ≠ noName := by simpa using h
        rcases hbest with ⟨hs, _⟩ | ⟨_, ⟨r, hr, hrn⟩, hrd, hmin⟩
        · exact absurd hs h
        have hfind : (namesS l).find? (readyB (PL l) out) = some s9 := find_least (names_asc hF) ((mem_names hF).2 ⟨r, hr, hrn⟩) hrd fun y hy hyr => by
          obtain ⟨q, hq, rfl⟩ := (mem_names hF).1 hy
          exact hmin q hq hyr
        rw [hfind] at hord
        have hno : has out s9 = false := by
          unfold readyB at hrd
          simp at hrd
          exact hrd.1
        refine alE_intro fun w6 hw6 => ?_
        have hp6 : Pu w5 w6 := by rw [hw6]; exact Pu.alloc w5 _
        have hn6 : w6.heap[w5.heap.size]? = some (.cells #[.string s9] 9) := by rw [hw6]; exact alloc_new w5 _
        obtain ⟨l87, w7, hra, hrow7, hf7', hblk7, _⟩ := row_push (P := Try.prog) (ty := 23) (t := 23) u23 info_str rfl (s := l7) (hr7.pu hp6) (a := ⟨w5.heap.size, 0, none⟩) (u := .string s9) (by rw [cell_blk hn6]; rfl) rfl (by omega)
        refine ⟨l87, w7, hra, ?_⟩
        have hp7 : Pu w2 w7 := Pu.andNew (hp4.trans hp6) hf7' fun i hi => by have := hf7 i hi; omega
        have hS7 : SetAt w7 w2.heap.size out := (hS4.pu hp6).fr hf7' fun h => by have := hf7 _ h; omega
        obtain ⟨w8, hrun, hS8, hf8, hs8⟩ := hS7.add s9
        rw [hno] at hS8
        have hS8 : SetAt w8 w2.heap.size (out ++ [s9]) := hS8
        refine ⟨w8, hrun, ?_⟩
        have hs4 := hp4.size
        have hs6 := hp6.size
        have hlt7 := hrow7.lt
        refine hJ _ _ hlt' ⟨out ++ [s9], by simp [hol], hord, hS8, ?_, fun i hi => ?_, Pu.andNew hp7 hf8 fun i hi => by have hi : i = _ := hi; omega⟩
        · have := hrow7.fr hf8 fun i hi h => by
            have h : i = _ := h
            rcases hblk7 i hi with h' | h'
            · have := hf7 i h'; omega
            · have := hS4.lt; omega
          simpa [strV] using this
        · rcases hblk7 i hi with h' | h'
          · exact hf7 i h'
          · have := hS4.lt; omega
  · have hge' : k = (RL l).length := by have := dfalse hge; omega
    rw [hge', Nat.sub_self, orderGo] at hord
    exact ⟨l7, by rw [hR0, hord], by rw [hR0, hord]; exact rd_of_row hr7 (by show out.length ≤ _; omega), (hp1.trans hp2).trans hp4⟩
end Go.Proofs.Ytcnenlmhbpijlaa

/- Link: rings of procedures that call each other: what is meant; the program's Rings. No condition but the reach's. -/
set_option maxRecDepth 100000
set_option linter.unusedVariables false
set_option linter.unusedSimpArgs false
namespace Go.Proofs.Ytcnenlmhbpijlaa
open Go.Sh Go.RowKit

/-! ### Families, in any order -/
theorem fam_pw {w : World} {N : Nat} {L : List Own1} : Fam w N L ↔ (∀ o ∈ L, RowAt w o.e 1 o.s o.vs ∧ ∀ i ∈ blkOf o.s, N ≤ i) ∧ L.Pairwise fun a b => ∀ x ∈ blkOf a.s, x ∉ blkOf b.s := by
  constructor
  · intro h
    refine ⟨fun o ho => ?_, List.pairwise_iff_getElem.2 fun i j hi hj hij => h.2 i j _ _ (List.getElem?_eq_getElem hi) (List.getElem?_eq_getElem hj) (by omega)⟩
    obtain ⟨k, hk⟩ := List.getElem?_of_mem ho
    exact h.1 k o hk
  · rintro ⟨h1, h2⟩
    rw [List.pairwise_iff_getElem] at h2
    refine ⟨fun k o hk => h1 o (List.mem_of_getElem? hk), fun i j a b hi hj hij x hx hxb => ?_⟩
    obtain ⟨hil, rfl⟩ := List.getElem?_eq_some_iff.1 hi
    obtain ⟨hjl, rfl⟩ := List.getElem?_eq_some_iff.1 hj
    rcases Nat.lt_or_ge i j with h | h
    · exact h2 i j hil hjl h x hx hxb
    · exact h2 j i hjl hil (by omega) x hxb hx
theorem Fam.perm {w : World} {N : Nat} {L L' : List Own1} (h : Fam w N L) (hp : L.Perm L') : Fam w N L' := by
  rw [fam_pw] at h ⊢
  exact ⟨fun o ho => h.1 o (hp.mem_iff.2 ho), h.2.perm hp fun {a b} hab x hx hxa => hab x hxa hx⟩
theorem Fam.none {w : World} {N : Nat} {L : List Own1} (h : Fam w N L) (e : TypeId) : Fam w N (⟨e, ⟨Option.none, 0, 0⟩, []⟩ :: L) := by
  rw [fam_pw] at h ⊢
  refine ⟨fun o ho => ?_, List.pairwise_cons.2 ⟨fun b _ x hx => by simp [blkOf] at hx, h.2⟩⟩
  rcases List.mem_cons.1 ho with rfl | ho
  · exact ⟨RowAt.nil _ _ _, by simp [blkOf]⟩
  · exact h.1 o ho
theorem Fam.tail {w : World} {N : Nat} {a : Own1} {L : List Own1} (h : Fam w N (a :: L)) : Fam w N L := by
  rw [fam_pw] at h ⊢
  exact ⟨fun o ho => h.1 o (List.mem_cons_of_mem _ ho), (List.pairwise_cons.1 h.2).2⟩
theorem Fam.nil (w : World) (N : Nat) : Fam w N [] := fam_pw.2 ⟨by simp, List.Pairwise.nil⟩

/-! ### Rings -/
open Classical in
noncomputable def ringL (D : List PDat) (N : List ByteArray) (x : ByteArray) : List ByteArray := N.filter fun y => decide (Reached D x y ∧ Reached D y x)
open Classical in
noncomputable def keepB (D : List PDat) (N done : List ByteArray) (x : ByteArray) : Bool := decide (∀ z ∈ done, x ∉ ringL D N z) && (decide (1 < (ringL D N x).length) || has (getD D x).2 x)
open Classical in
theorem keepB_no {D : List PDat} {N done : List ByteArray} {x z : ByteArray} (hz : z ∈ done) (hx : x ∈ ringL D N z) : keepB D N done x = false := by
  unfold keepB
  rw [Bool.and_eq_false_iff]
  exact .inl (decide_eq_false fun hh => hh z hz hx)
open Classical in
theorem keepB_yes {D : List PDat} {N done : List ByteArray} {x : ByteArray} (h : ∀ z ∈ done, x ∉ ringL D N z) : keepB D N done x = (decide (1 < (ringL D N x).length) || has (getD D x).2 x) := by
  unfold keepB
  rw [decide_eq_true h, Bool.true_and]
noncomputable def ringsGo (D : List PDat) (N : List ByteArray) : List ByteArray → List ByteArray → List (List ByteArray)
  | _, [] => []
  | done, x :: r => (if keepB D N done x then [ringL D N x] else []) ++ ringsGo D N (done ++ [x]) r
theorem ringsGo_snoc (D : List PDat) (N : List ByteArray) (x : ByteArray) : ∀ (A done : List ByteArray), ringsGo D N done (A ++ [x]) = ringsGo D N done A ++ (if keepB D N (done ++ A) x then [ringL D N x] else [])
  | [], done => by simp [ringsGo]
  | a :: A, done => by
    rw [List.cons_append, ringsGo, ringsGo, ringsGo_snoc D N x A (done ++ [a])]
    simp [List.append_assoc]
theorem ringsGo_len (D : List PDat) (N : List ByteArray) : ∀ (A done : List ByteArray), (ringsGo D N done A).length ≤ A.length
  | [], _ => by simp [ringsGo]
  | a :: A, done => by
    have := ringsGo_len D N A (done ++ [a])
    rw [ringsGo, List.length_append, List.length_cons]
    split <;> simp <;> omega
theorem ringsGo_mem {D : List PDat} {N : List ByteArray} {q : List ByteArray} : ∀ {A done : List ByteArray}, q ∈ ringsGo D N done A → q.length ≤ N.length
  | [], _, h => by simp [ringsGo] at h
  | a :: A, done, h => by
    rw [ringsGo] at h
    rcases List.mem_append.1 h with h | h
    · split at h
      · simp at h; subst h; exact List.length_filter_le _ _
      · simp at h
    · exact ringsGo_mem h
noncomputable def ringsS (l : List Mod) : List (List ByteArray) := ringsGo (PL l) (namesS l) [] (namesS l)
noncomputable def ringsR (l : List Mod) : List (List ByteArray) × Int := if openE l = 0 then (ringsS l, 0) else ([], openE l)
theorem mem_ring {D : List PDat} {N : List ByteArray} {x y : ByteArray} : y ∈ ringL D N x ↔ y ∈ N ∧ Reached D x y ∧ Reached D y x := by
  simp only [ringL, List.mem_filter, decide_eq_true_eq]
theorem ring_asc {D : List PDat} {N : List ByteArray} (h : N.Pairwise fun a b => bLt a b = true) (x : ByteArray) : (ringL D N x).Pairwise fun a b => bLt a b = true := h.sublist List.filter_sublist
/-- Whoever lies in a ring has the same one. -/
theorem ring_same {D : List PDat} {N : List ByteArray} {x z : ByteArray} (h : x ∈ ringL D N z) : ringL D N x = ringL D N z := by
  obtain ⟨_, h1, h2⟩ := mem_ring.1 h
  unfold ringL
  refine List.filter_congr fun y _ => ?_
  exact decide_eq_decide.2 ⟨fun ⟨a, b⟩ => ⟨h1.trans a, b.trans h2⟩, fun ⟨a, b⟩ => ⟨h2.trans a, b.trans h1⟩⟩

theorem u96 : Try.prog.underlying 96 = some (.map 9 82) := by kernel_rfl
abbrev evM : Nat → Value := fun p => .map (some p)
/-- A set of names that are reached from x, behind p. -/
def ReachAt (w : World) (D : List PDat) (x : ByteArray) (p : Nat) : Prop := ∃ S, SetAt w p S ∧ (∀ y, y ∈ S ↔ Reached D x y) ∧ S.length ≤ D.length
theorem ReachAt.fr {w w' : World} {D : List PDat} {x : ByteArray} {p : Nat} {B : Nat → Prop} (h : ReachAt w D x p) (hf : Fr B w w') (hn : ¬ B p) : ReachAt w' D x p := let ⟨S, h1, h2⟩ := h; ⟨S, h1.fr hf hn, h2⟩
theorem ReachAt.pu {w w' : World} {D : List PDat} {x : ByteArray} {p : Nat} (h : ReachAt w D x p) (hp : Pu w w') : ReachAt w' D x p := let ⟨S, h1, h2⟩ := h; ⟨S, h1.pu hp, h2⟩
theorem ReachAt.lt {w : World} {D : List PDat} {x : ByteArray} {p : Nat} (h : ReachAt w D x p) : p < w.heap.size := let ⟨_, h1, _⟩ := h; h1.lt
/-- The map of what each reaches. -/
def AllReach (w : World) (D : List PDat) (b6 : Nat) : Prop := ∃ M : List (ByteArray × Nat), MapAt w ekS evM b6 M ∧ ∀ x, isIn D x = true → ∃ p, AL.get M x = some p ∧ ReachAt w D x p
theorem AllReach.pu {w w' : World} {D : List PDat} {b6 : Nat} (h : AllReach w D b6) (hp : Pu w w') : AllReach w' D b6 := let ⟨M, h1, h2⟩ := h; ⟨M, h1.pu hp, fun x hx => let ⟨p, a, b⟩ := h2 x hx; ⟨p, a, b.pu hp⟩⟩
end Go.Proofs.Ytcnenlmhbpijlaa

/- Link: the program's Rings. No condition but the reach's. -/
set_option maxRecDepth 100000
set_option linter.unusedVariables false
set_option linter.unusedSimpArgs false
namespace Go.Proofs.Ytcnenlmhbpijlaa
open Go.Sh Go.RowKit

theorem look96 {w : World} {b : Nat} {M : List (ByteArray × Nat)} (h : MapAt w ekS evM b M) {x : ByteArray} {p : Nat} (hp : AL.get M x = some p) : (Instr.lookup 96 (.map (some b)) (.string x) false).run Try.prog w = .ok (.map (some p)) w := by
  have h1 := MapAt.look h K9 u96 (Try.zeroValue82 w) x false
  simp only [Bool.false_eq_true, if_false, hp] at h1
  exact h1

set_option maxHeartbeats 2000000 in
/-- The map of what each reaches is made. -/
theorem allReach_c (w1 : World) (b : Nat) (L : List PRow) (D : List PDat) (hM : MapAt w1 ekS evP b L) (hR : RdP w1 L D) (hin : ∀ x y, y ∈ (getD D x).2 → isIn D y = true)
    (R : Rt) (hK : ∀ w' b6, Pu w1 w' → AllReach w' D b6 → F37_12 R (some b) (some b6) [] w') :
    alE (.map #[] 0) w1 fun r23 w29 => ∃ p25 : Option Addr, ∃ w30 : World, (Instr.range 57 (.map (some b))).run Try.prog w29 = .ok (.pointer p25) w30 ∧ F37_15 R (some b) (some r23) p25 [] w30 := by
  refine alE_intro fun w2 hw2 => ?_
  have hp2 : Pu w1 w2 := by rw [hw2]; exact Pu.alloc w1 _
  have z2 : w2.heap.size = w1.heap.size + 1 := by rw [hw2]; simp
  have hM2 : MapAt w2 ekS evM w1.heap.size ([] : List (ByteArray × Nat)) := by rw [hw2]; exact MapAt.new w1 ekS evM
  have hbl := hM.lt
  obtain ⟨w3, hrun, hI, hp3, z3⟩ := (hM.pu hp2).range u57
  refine ⟨_, w3, hrun, ?_⟩
  refine loopDown (σ := Unit) L.length (fun n _ w' => ∃ (todo : List PRow) (M : List (ByteArray × Nat)), n = todo.length ∧ IterAt w' ekS evP w2.heap.size b L todo ∧ Pu w1 w' ∧ w3.heap.size ≤ w'.heap.size ∧ MapAt w' ekS evM w1.heap.size M ∧ (∀ x p, AL.get M x = some p → ReachAt w' D x p ∧ w3.heap.size ≤ p) ∧ (∀ q ∈ L, q ∉ todo → ∃ p, AL.get M q.1 = some p) ∧ ∀ q ∈ todo, q ∈ L)
    ⟨L, [], rfl, hI, hp2.trans hp3, Nat.le_refl _, hM2.pu hp3, fun x p h => by simp [AL.get] at h, fun q hq hn => absurd hq hn, fun q hq => hq⟩ ?_
  rintro n J u w4 ⟨todo, M, rfl, hI4, hp4, hz4, hM4, hS4, hdone, hsub⟩ hJ
  rcases IterAt.next (P := Try.prog) hI4 0 with ⟨h0, hnext⟩ | ⟨p, hp, w5, hnext, hf5, hs5, hI5, hent⟩
  · subst h0
    refine .inl ⟨w4, hnext, hK w4 w1.heap.size hp4 ⟨M, hM4, fun x hx => ?_⟩⟩
    obtain ⟨q, hq, rfl⟩ := isIn_mem hx
    have hkeys := hR.keys
    have : q.1 ∈ L.map Prod.fst := by rw [hkeys]; exact List.mem_map.2 ⟨q, hq, rfl⟩
    obtain ⟨q', hq', e⟩ := List.mem_map.1 this
    obtain ⟨p, hp⟩ := hdone q' hq' (by simp)
    rw [e] at hp
    exact ⟨p, hp, (hS4 _ _ hp).1⟩
  · refine .inr ⟨_, _, w5, hnext, _, _, w5, hent, ?_⟩
    have hp5 : Pu w1 w5 := Pu.andNew hp4 hf5 fun i hi => by have hi : i = _ := hi; omega
    have hpin : isIn D p.1 = true := by
      have : p.1 ∈ D.map Prod.fst := by rw [← hR.keys]; exact List.mem_map.2 ⟨p, hsub p hp, rfl⟩
      obtain ⟨q, hq, e⟩ := List.mem_map.1 this
      rw [← e]
      unfold isIn
      cases hg : AL.get D q.1 with
      | some v => rfl
      | none =>
        exfalso
        have := (AL.get_none (l := D) (k := q.1)).1 hg
        exact this (List.mem_map.2 ⟨q, hq, rfl⟩)
    show Calls Try.prog 66 #[.map (some b), .string p.1] w5 _
    refine Calls.mono (reach_c w5 b L D (hM.pu hp5) (hR.pu hp5) hin p.1 hpin) ?_
    rintro e w6 ⟨r7, S, rfl, hSet, hmem, hSlen, h7, hp6⟩
    refine ⟨some r7, rfl, ?_⟩
    have hM6 := (hM4.fr hf5 (by show ¬ _ = _; omega)).pu hp6
    obtain ⟨w7, hupd, hM7, hf7, hs7⟩ := hM6.upd (P := Try.prog) K9 u96 p.1 r7
    refine ⟨w7, hupd, ?_⟩
    have hs6 := hp6.size
    have hpd := AL.length_del hp hI4.nodup
    refine hJ (AL.del todo p.1).length () w7 (by omega) ⟨AL.del todo p.1, AL.put M p.1 r7, rfl, (IterAt.fr hI5 (Fr.pu hp6 : Fr (fun _ => False) w5 w6) (fun h => h) (fun h => h)).fr hf7 (by show ¬ _ = _; omega) (by show ¬ _ = _; omega), Pu.andNew (hp5.trans hp6) hf7 fun i hi => by have hi : i = _ := hi; omega, by omega, hM7, fun x q hq => ?_, fun q hq hn => ?_, fun q hq => ?_⟩
    · rw [AL.get_put] at hq
      split at hq
      · rename_i e
        cases hq
        subst e
        exact ⟨⟨S, hSet.fr hf7 (by show ¬ _ = _; omega), hmem, hSlen⟩, by omega⟩
      · obtain ⟨g1, g2⟩ := hS4 x q hq
        exact ⟨((g1.fr hf5 (by show ¬ _ = _; omega)).pu hp6).fr hf7 (by show ¬ _ = _; omega), g2⟩
    · rw [AL.get_put]
      by_cases e : p.1 = q.1
      · exact ⟨r7, by rw [if_pos e]⟩
      · rw [if_neg e]
        refine hdone q hq fun hqt => hn ?_
        have := (AL.perm_del hp hI4.nodup).mem_iff (a := q) |>.1 hqt
        rcases List.mem_cons.1 this with h | h
        · exact absurd (by rw [h]) e
        · exact h
    · exact hsub q ((AL.perm_del hp hI4.nodup).mem_iff.2 (List.mem_cons_of_mem _ hq))
end Go.Proofs.Ytcnenlmhbpijlaa

/- Link: the program's Rings. No condition but the reach's. -/
set_option maxRecDepth 100000
set_option linter.unusedVariables false
set_option linter.unusedSimpArgs false
namespace Go.Proofs.Ytcnenlmhbpijlaa
open Go.Sh Go.RowKit

/-- The rings' rows. -/
def famR (l8 : SV) (cs : List SV) (rings : List (List ByteArray)) : List Own1 := ⟨23, l8, cs.map slV⟩ :: ((cs.zip rings).map fun q => ⟨9, q.1, strV q.2⟩)
theorem famR_snoc (l8 : SV) (cs : List SV) (rings : List (List ByteArray)) (t : SV) (q : List ByteArray) (h : cs.length = rings.length) : famR l8 (cs ++ [t]) (rings ++ [q]) = ⟨23, l8, cs.map slV ++ [slV t]⟩ :: (((cs.zip rings).map fun q => (⟨9, q.1, strV q.2⟩ : Own1)) ++ [⟨9, t, strV q⟩]) := by
  unfold famR
  rw [List.zip_append h]
  simp
theorem rd_of_famR {w : World} {N : Nat} {l8 : SV} {cs : List SV} {rings : List (List ByteArray)} (h : Fam w N (famR l8 cs rings)) (hl : cs.length = rings.length) (h1 : rings.length ≤ 1000000) (h2 : ∀ q ∈ rings, q.length ≤ 1000000) : RdSl w l8 rings := by
  refine rd_of_lists (h.1 0 _ rfl).1 hl (fun i t x ht hx => ?_) (by omega)
  have h3 := h.1 (i + 1) ⟨9, t, strV x⟩ (by
    show ((cs.zip rings).map fun q => (⟨9, q.1, strV q.2⟩ : Own1))[i]? = _
    rw [List.getElem?_map, show (cs.zip rings)[i]? = some (t, x) from by rw [List.getElem?_zip_eq_some]; exact ⟨ht, hx⟩]; rfl)
  exact rd_of_row h3.1 (by have := h2 x (List.mem_of_getElem? hx); omega)

open Classical in
/-- Of those that are reached: who reaches back. -/
noncomputable def backL (D : List PDat) (x : ByteArray) (S : List ByteArray) : List ByteArray := S.filter fun y => decide (Reached D y x)
theorem back_take {D : List PDat} {x y : ByteArray} {S : List ByteArray} {j : Nat} (h : S[j]? = some y) : (Reached D y x → backL D x (S.take (j + 1)) = backL D x (S.take j) ++ [y]) ∧ (¬ Reached D y x → backL D x (S.take (j + 1)) = backL D x (S.take j)) := by
  unfold backL
  rw [take_at h, List.filter_append]
  refine ⟨fun hr => ?_, fun hr => ?_⟩
  · simp [hr]
  · simp [hr]
theorem mem_back {D : List PDat} {x y : ByteArray} {S : List ByteArray} : y ∈ backL D x S ↔ y ∈ S ∧ Reached D y x := by simp only [backL, List.mem_filter, decide_eq_true_eq]
theorem back_ring {l : List Mod} (ho : openE l = 0) {x : ByteArray} (hx : isIn (PL l) x = true) {S : List ByteArray} (hS : S.Nodup) (hm : ∀ y, y ∈ S ↔ Reached (PL l) x y) : backL (PL l) x (srt S) = ringL (PL l) (namesS l) x := by
  have hF := fits_of (open_valid ho)
  refine asc_ext ((set_sorted hS).sublist List.filter_sublist) (ring_asc (names_asc hF) x) fun y => ?_
  rw [mem_back, mem_srt, hm, mem_ring]
  refine ⟨fun ⟨a, b⟩ => ⟨?_, a, b⟩, fun ⟨_, a, b⟩ => ⟨a, b⟩⟩
  have hy := Reached.isIn ho hx a
  rw [namesS, mem_srt]
  obtain ⟨q, hq, e⟩ := isIn_mem hy
  exact List.mem_map.2 ⟨q, hq, e⟩
theorem names_in {l : List Mod} {x : ByteArray} (h : x ∈ namesS l) : isIn (PL l) x = true := by
  rw [namesS, mem_srt] at h
  unfold isIn
  cases hg : AL.get (PL l) x with
  | some v => rfl
  | none => exact absurd h (AL.get_none.1 hg)

set_option maxHeartbeats 4000000 in
theorem rings_c (w : World) (s : SV) (l : List Mod) (hl : RdSl w s l) (hL : Lim.ok l) : Calls Try.prog 37 #[.slice s.a s.len s.cap] w fun e w' => ∃ t : SV, e = .returned (.tuple #[.slice t.a t.len t.cap, .int .i64 (ringsR l).2]) ∧ RdSl w' t (ringsR l).1 ∧ Pu w w' := by
  refine F37_calls s w _ ?_
  refine Calls.mono (open_c w s l hl hL) ?_
  rintro e w1 ⟨m, rfl, hp1, hO⟩
  refine ⟨m, _, rfl, Br.of (fun h1 => ?_) (fun h1 => ?_)⟩
  · have h1 : openE l ≠ 0 := by simpa using h1
    exact ⟨⟨none, 0, 0⟩, by rw [ringsR, if_neg h1], by rw [ringsR, if_neg h1]; exact RdSl.nil w1 none 0, hp1⟩
  have h1 : openE l = 0 := by simpa using h1
  obtain ⟨b, L, rfl, hM, hR⟩ := hO h1
  have hF := fits_of (open_valid h1)
  have hpl : (PL l).length ≤ 100 := by rw [PL_len hF.callsL]; exact hF.procs
  have hkeys := hR.keys
  have hLl : L.length ≤ 100 := by have := congrArg List.length hkeys; simp at this; omega
  have hnl := namesS_len l
  refine allReach_c w1 b L (PL l) hM hR (fun x y hy => open_in h1 hy) _ fun w2 b6 hp2 hAll => ?_
  refine alE_intro fun w3 hw3 => ?_
  have hp3 : Pu w2 w3 := by rw [hw3]; exact Pu.alloc w2 _
  have z3 : w3.heap.size = w2.heap.size + 1 := by rw [hw3]; simp
  have hS3 : SetAt w3 w2.heap.size [] := by rw [hw3]; exact SetAt.new w2
  refine Calls.mono (keys57_c w3 (some b)) ?_
  rintro e w3' ⟨rfl, rfl⟩
  refine ⟨_, rfl, ?_⟩
  refine Calls.mono (sortedKeys_106 w3 b L ((hM.pu hp2).pu hp3) (by omega)) ?_
  rintro e w4 ⟨l38, rfl, hrow38, hf38, hp4⟩
  rw [hkeys] at hrow38
  have hrowN : RowAt w4 9 1 l38 (strV (namesS l)) := hrow38
  clear hrow38
  have hl38 : l38.len = (namesS l).length := by have := hrowN.1; simp at this; omega
  refine ⟨l38, rfl, ?_⟩
  have z4 := hp4.size
  generalize hN : namesS l = N at *
  generalize hD : PL l = D at *
  refine loopUp N.length (fun k t w' => t.2 = (k : Int) ∧ ∃ (seen : List ByteArray) (cs : List SV), cs.length = (ringsGo D N [] (N.take k)).length ∧ SetAt w' w2.heap.size seen ∧ (∀ z, z ∈ seen ↔ ∃ y ∈ N.take k, z ∈ ringL D N y) ∧ Fam w' w4.heap.size (famR t.1 cs (ringsGo D N [] (N.take k))) ∧ Pu w2 w' ∧ RowAt w' 9 1 l38 (strV N) ∧ w4.heap.size ≤ w'.heap.size)
    ⟨rfl, [], [], by simp [ringsGo], hS3.pu hp4, by simp, by simpa [ringsGo, famR] using (Fam.nil w4 w4.heap.size).none 23, hp3.trans hp4, hrowN, Nat.le_refl _⟩ ?_
  rintro k J ⟨l8, t⟩ w5 hk ⟨ht, seen, cs, hcs, hS5, hseen, hfam, hp5, hr38, hz5⟩ hJ
  obtain rfl : t = (k : Int) := ht
  generalize hrg : ringsGo D N [] (N.take k) = rings at hcs hfam
  have hrk : rings.length ≤ k := by
    rw [← hrg]
    have h1 := ringsGo_len D N (N.take k) []
    have h2 : (N.take k).length ≤ k := by simp; omega
    omega
  have hfam : Fam w5 w4.heap.size (famR l8 cs rings) := hfam
  have hl8 : l8.len = cs.length := by have := (hfam.1 0 _ rfl).1.1; simp at this; omega
  dsimp only
  refine Br.of (fun hlt => ?_) (fun hge => ?_)
  case refine_2 =>
    have hge' : ¬ k < N.length := by have := dfalse hge; omega
    rw [take_end hk hge'] at hrg
    have hRR : ringsR l = (rings, 0) := by rw [ringsR, if_pos h1, ringsS, hN, hD, hrg]
    refine ⟨l8, by rw [hRR], ?_, (hp1.trans hp2).trans hp5⟩
    rw [hRR]
    refine rd_of_famR hfam hcs (by show rings.length ≤ _; omega) fun q hq => ?_
    rw [← hrg] at hq
    have := ringsGo_mem hq
    omega
  have hlt' : k < N.length := by have := dtrue hlt; omega
  obtain ⟨x, hx⟩ := at_k hlt'
  have hxN := List.mem_of_getElem? hx
  have hxin : isIn D x = true := by rw [← hD]; exact names_in (by rw [hN]; exact hxN)
  obtain ⟨a14, ha14, hc14, _⟩ := hr38.cell (j := k) (v := .string x) (by simp [hx])
  refine ⟨a14, ha14, by omega, by omega, x, by simpa using hc14, _, w5, hS5.look x, ?_⟩
  have hxring : x ∈ ringL D N x := mem_ring.2 ⟨hxN, .self, .self⟩
  have hgo := ringsGo_snoc D N x (N.take k) []
  rw [← take_at hx, hrg, List.nil_append] at hgo
  refine Br.of (fun h => ?_) (fun h => ?_)
  · obtain ⟨y, hy, hxy⟩ := (hseen x).1 (has_iff.1 h)
    have hkb : keepB D N (N.take k) x = false := keepB_no hy hxy
    rw [hkb] at hgo
    simp only [Bool.false_eq_true, if_false, List.append_nil] at hgo
    show J _ _
    rw [wrap_in (n := (k : Int) + 1) (by omega) (by omega)]
    refine hJ _ _ hlt' ⟨rfl, seen, cs, by rw [hgo]; exact hcs, hS5, fun z => ?_, by rw [hgo]; exact hfam, hp5, hr38, hz5⟩
    rw [hseen, take_at hx]
    refine ⟨fun ⟨y, hy, hz⟩ => ⟨y, List.mem_append_left _ hy, hz⟩, fun ⟨y', hy', hz⟩ => ?_⟩
    rcases List.mem_append.1 hy' with hy' | hy'
    · exact ⟨y', hy', hz⟩
    · simp at hy'; subst hy'
      rw [ring_same hxy] at hz
      exact ⟨y, hy, hz⟩
  have hnot : ∀ z ∈ N.take k, x ∉ ringL D N z := fun z hz hxz => has_false.1 h ((hseen x).2 ⟨z, hz, hxz⟩)
  have hkb : keepB D N (N.take k) x = (decide (1 < (ringL D N x).length) || has (getD D x).2 x) := keepB_yes hnot
  obtain ⟨Mm, hMm, hget⟩ := hAll.pu hp5
  obtain ⟨p, hp, S, hSx, hSm, hSl0⟩ := hget x hxin
  refine ⟨some p, w5, look96 hMm hp, ?_⟩
  refine Calls.mono (keys82_c w5 (some p)) ?_
  rintro e w5' ⟨rfl, rfl⟩
  refine ⟨_, rfl, ?_⟩
  have hSnd := hSx.nodup
  have hring : backL D x (srt S) = ringL D N x := by
    have := back_ring (l := l) h1 (x := x) (by rw [hD]; exact hxin) hSnd (by rw [hD]; exact hSm)
    rwa [hD, hN] at this
  have hSin : ∀ y ∈ srt S, isIn D y = true := fun y hy => by
    have := Reached.isIn (l := l) h1 (x := x) (y := y) (by rw [hD]; exact hxin) (by rw [hD]; exact (hSm y).1 (mem_srt.1 hy))
    rwa [hD] at this
  have hSl : S.length ≤ 100 := by omega
  refine Calls.mono (sortedKeys_101 w5 p _ hSx (by simp; omega)) ?_
  rintro e w6 ⟨l51, rfl, hrow51, hf51, hp6⟩
  rw [fst_true] at hrow51
  have hl51 : l51.len = (srt S).length := by have := hrow51.1; simp at this; omega
  refine ⟨l51, rfl, ?_⟩
  have hssl : (srt S).length = S.length := srt_length S
  have hs56 := hp6.size
  have hlt51 := hrow51.lt
  have hlt38 := hrowN.lt
  refine loopUp (srt S).length (fun j t w' => t.2 = (j : Int) ∧ ∃ seen', SetAt w' w2.heap.size seen' ∧ (∀ z, z ∈ seen' ↔ z ∈ seen ∨ z ∈ backL D x ((srt S).take j)) ∧ Fam w' w4.heap.size (⟨9, t.1, strV (backL D x ((srt S).take j))⟩ :: famR l8 cs rings) ∧ (∀ i ∈ blkOf t.1, w6.heap.size ≤ i) ∧ Pu w2 w' ∧ RowAt w' 9 1 l38 (strV N) ∧ RowAt w' 9 1 l51 (strV (srt S)) ∧ w6.heap.size ≤ w'.heap.size)
    ⟨rfl, seen, hS5.pu hp6, by simp [backL], by simpa [backL] using (hfam.pu hp6).none 9, by simp [blkOf], hp5.trans hp6, hr38.pu hp6, hrow51, Nat.le_refl _⟩ ?_
  rintro j J2 ⟨l12, t⟩ w7 hj ⟨ht, seen', hS7, hseen', hfam7, hf12, hp7, hr38', hr51, hz7⟩ hJ2
  obtain rfl : t = (j : Int) := ht
  have hfam7 : Fam w7 w4.heap.size (⟨9, l12, strV (backL D x ((srt S).take j))⟩ :: famR l8 cs rings) := hfam7
  have hf12 : ∀ i ∈ blkOf l12, w6.heap.size ≤ i := hf12
  have hl12 : l12.len = (backL D x ((srt S).take j)).length := by have := (hfam7.1 0 _ rfl).1.1; simp at this; omega
  have hbl : (backL D x ((srt S).take j)).length ≤ 100 := by
    have h1 : (backL D x ((srt S).take j)).length ≤ ((srt S).take j).length := List.length_filter_le _ _
    have h2 : ((srt S).take j).length ≤ (srt S).length := by simp; omega
    omega
  dsimp only
  refine Br.of (fun hlt2 => ?_) (fun hge2 => ?_)
  · have hlt2' : j < (srt S).length := by have := dtrue hlt2; omega
    obtain ⟨y, hy⟩ := at_k hlt2'
    have hyin := hSin y (List.mem_of_getElem? hy)
    obtain ⟨a8, ha8, hc8, _⟩ := hr51.cell (j := j) (v := .string y) (by simp [hy])
    obtain ⟨Mm7, hMm7, hget7⟩ := hAll.pu hp7
    obtain ⟨py, hpy, Sy, hSy, hSym, _⟩ := hget7 y hyin
    obtain ⟨bt1, bt2⟩ := back_take (D := D) (x := x) hy
    refine ⟨a8, ha8, by omega, by omega, y, by simpa using hc8, some py, w7, look96 hMm7 hpy, _, w7, hSy.look x, Br.of (fun h2 => ?_) (fun h2 => ?_)⟩
    · have hback : Reached D y x := (hSym x).1 (has_iff.1 h2)
      have hb1 := bt1 hback
      refine alE_intro fun w8 hw8 => ?_
      have hp8 : Pu w7 w8 := by rw [hw8]; exact Pu.alloc w7 _
      have hn8 : w8.heap[w7.heap.size]? = some (.cells #[.string y] 9) := by rw [hw8]; exact alloc_new w7 _
      have hfam8 := hfam7.pu hp8
      obtain ⟨l65, w9, hra, hrow9, hf9, hblk9, _⟩ := row_push (P := Try.prog) (ty := 23) (t := 23) u23 info_str rfl (s := l12) (hfam8.1 0 _ rfl).1 (a := ⟨w7.heap.size, 0, none⟩) (u := .string y) (by rw [cell_blk hn8]; rfl) rfl (by omega)
      refine ⟨l65, w9, hra, ?_⟩
      have hs8 := hp8.size
      have hs27 := hp7.size
      have hfam9 := Fam.upd hfam8 (k := 0) rfl hrow9 hf9 hblk9 (by omega)
      have hS9 : SetAt w9 w2.heap.size seen' := (hS7.pu hp8).fr hf9 fun h => by have := hf12 _ h; omega
      have hp9 : Pu w2 w9 := Pu.andNew (hp7.trans hp8) hf9 fun i hi => by have := hf12 i hi; omega
      obtain ⟨w10, hrun, hS10, hf10, hs10⟩ := hS9.add y
      refine ⟨w10, hrun, ?_⟩
      have hs9 := hf9.size
      rw [wrap_in (n := (j : Int) + 1) (by omega) (by omega)]
      refine hJ2 _ _ hlt2' ⟨rfl, _, hS10, fun z => ?_, ?_, fun i hi => ?_, Pu.andNew hp9 hf10 fun i hi => by have hi : i = _ := hi; omega, ?_, ?_, by omega⟩
      · rw [hb1, List.mem_append, List.mem_singleton, ← or_assoc, ← hseen' z]
        by_cases hys : has seen' y = true
        · rw [if_pos hys]
          exact ⟨fun h => .inl h, fun h => h.elim id fun e => by rw [e]; exact has_iff.1 hys⟩
        · rw [if_neg hys, List.mem_append, List.mem_singleton]
      · rw [hb1]
        have e : strV (backL D x ((srt S).take j) ++ [y]) = strV (backL D x ((srt S).take j)) ++ [.string y] := by simp [strV]
        rw [e]
        exact hfam9.fr hf10 fun i hi => by have hi : i = _ := hi; omega
      · rcases hblk9 i hi with h' | h'
        · exact hf12 i h'
        · omega
      · exact ((hr38'.pu hp8).fr hf9 fun i hi h => by have := hf12 i h; have := hlt38 i hi; omega).fr hf10 fun i hi h => by have h : i = _ := h; have := hf38 i hi; omega
      · exact ((hr51.pu hp8).fr hf9 fun i hi h => by have := hf12 i h; have := hlt51 i hi; omega).fr hf10 fun i hi h => by have h : i = _ := h; have := hf51 i hi; omega
    · have hb2 := bt2 fun hr => by rw [has_iff.2 ((hSym x).2 hr)] at h2; cases h2
      rw [wrap_in (n := (j : Int) + 1) (by omega) (by omega)]
      exact hJ2 _ _ hlt2' ⟨rfl, seen', hS7, fun z => by rw [hb2]; exact hseen' z, by rw [hb2]; exact hfam7, hf12, hp7, hr38', hr51, hz7⟩
  · have hge2' : ¬ j < (srt S).length := by have := dfalse hge2; omega
    rw [take_end hj hge2', hring] at hseen' hfam7
    rw [take_end hj hge2', hring] at hl12 hbl
    have hseenN : ∀ z, z ∈ seen' ↔ ∃ y ∈ N.take (k + 1), z ∈ ringL D N y := fun z => by
      rw [hseen', hseen, take_at hx]
      constructor
      · rintro (⟨y, hy, hz⟩ | hz)
        · exact ⟨y, List.mem_append_left _ hy, hz⟩
        · exact ⟨x, by simp, hz⟩
      · rintro ⟨y, hy, hz⟩
        rcases List.mem_append.1 hy with hy | hy
        · exact .inl ⟨y, hy, hz⟩
        · simp at hy; subst hy; exact .inr hz
    have hs27 := hp7.size
    -- the ring is kept
    have put : ∀ w8 : World, Pu w7 w8 → keepB D N (N.take k) x = true → alE (.cells #[.slice l12.a l12.len l12.cap] 23) w8 fun r82 w2' => ∃ l83 : SV, ∃ w3' : World, (Builtin.append_ #[31, 31] 31 #[.slice l8.a l8.len l8.cap, .slice (some ⟨r82, 0, none⟩) 1 1]).run Try.prog w2' = .ok (.slice l83.a l83.len l83.cap) w3' ∧ J (l83, IntKind.i64.wrap ((k : Int) + 1)) w3' := fun w8 hp8 hkeep => by
      rw [hkeep] at hgo
      refine alE_intro fun w9 hw9 => ?_
      have hp9 : Pu w8 w9 := by rw [hw9]; exact Pu.alloc w8 _
      have hn9 : w9.heap[w8.heap.size]? = some (.cells #[.slice l12.a l12.len l12.cap] 23) := by rw [hw9]; exact alloc_new w8 _
      have hfam9 := (hfam7.pu hp8).pu hp9
      have hb8 := (hfam9.1 1 _ rfl).2
      obtain ⟨l83, w10, hra, hrow10, hf10, hblk10, _⟩ := row_push (P := Try.prog) (ty := 31) (t := 31) u31 info23 rfl (s := l8) (hfam9.1 1 _ rfl).1 (a := ⟨w8.heap.size, 0, none⟩) (u := slV l12) (by rw [cell_blk hn9]; rfl) rfl (by omega)
      refine ⟨l83, w10, hra, ?_⟩
      have hs8 := hp8.size
      have hs9 := hp9.size
      have hs10 := hf10.size
      have hfam10 := Fam.upd hfam9 (k := 1) rfl hrow10 hf10 hblk10 (by omega)
      rw [wrap_in (n := (k : Int) + 1) (by omega) (by omega)]
      refine hJ _ _ hlt' ⟨rfl, seen', cs ++ [l12], by rw [hgo]; simp [hcs], ((hS7.pu hp8).pu hp9).fr hf10 fun h => by have := hb8 _ h; omega, hseenN, ?_, Pu.andNew ((hp7.trans hp8).trans hp9) hf10 fun i hi => by have := hb8 i hi; omega, ((hr38'.pu hp8).pu hp9).fr hf10 fun i hi h => by have := hb8 i h; have := hlt38 i hi; omega, by omega⟩
      rw [hgo]
      show Fam w10 w4.heap.size (famR l83 (cs ++ [l12]) (rings ++ [ringL D N x]))
      rw [famR_snoc _ _ _ _ _ hcs]
      exact hfam10.perm ((List.Perm.swap _ _ _).trans (List.Perm.cons _ (List.perm_append_singleton _ _).symm))
    -- the ring is left
    have leave : ∀ w8 : World, Pu w7 w8 → keepB D N (N.take k) x = false → J (l8, IntKind.i64.wrap ((k : Int) + 1)) w8 := fun w8 hp8 hkeep => by
      rw [hkeep] at hgo
      simp only [Bool.false_eq_true, if_false, List.append_nil] at hgo
      have hs8 := hp8.size
      rw [wrap_in (n := (k : Int) + 1) (by omega) (by omega)]
      exact hJ _ _ hlt' ⟨rfl, seen', cs, by rw [hgo]; exact hcs, hS7.pu hp8, hseenN, by rw [hgo]; exact (hfam7.pu hp8).tail, hp7.trans hp8, hr38'.pu hp8, by omega⟩
    refine Br.of (fun h2 => ?_) (fun h2 => ?_)
    · have h2 := dtrue h2
      exact put w7 (Pu.refl w7) (by rw [hkb, decide_eq_true (by omega), Bool.true_or])
    · have h2 := dfalse h2
      have hkb2 : keepB D N (N.take k) x = has (getD D x).2 x := by rw [hkb, decide_eq_false (by omega), Bool.false_or]
      obtain ⟨_, _, hrd⟩ := hR.get x
      have hP27 := hp2.trans hp7
      refine ⟨_, _, w7, (look57 (hM.pu hP27) x).2, ?_⟩
      refine Calls.mono (contains_c w7 (getL L x).2 (getD D x).2 (hrd.pu hP27) x) ?_
      rintro e w8 ⟨rfl, hp8⟩
      refine ⟨_, rfl, Br.of (fun h3 => ?_) (fun h3 => ?_)⟩
      · exact put w8 hp8 (by rw [hkb2]; exact h3)
      · exact leave w8 hp8 (by rw [hkb2]; exact h3)
end Go.Proofs.Ytcnenlmhbpijlaa

/- Link: the reference's Rings. No condition but the reach's. -/
set_option maxRecDepth 100000
set_option linter.unusedVariables false
set_option linter.unusedSimpArgs false
namespace Go.Proofs.Ytcnenlmhbpijlaa
open Go.Sh Go.RowKit

theorem u98 : Try.prog.underlying 98 = some (.slice 89) := by kernel_rfl
theorem info89 : (Try.prog.info? 89).map (fun i => (i.zero, i.size, i.bytes)) = some (some (.slice none 0 0), 1, 24) := by kernel_rfl
theorem fill_set {z v : Value} (A : List Value) (m : Nat) : (A ++ List.replicate (m + 1) z).set A.length v = (A ++ [v]) ++ List.replicate m z := by
  rw [List.set_append_right _ _ (Nat.le_refl _), Nat.sub_self, List.replicate_succ]
  simp
theorem row_ne {w : World} {e e' : TypeId} {s s' : SV} {vs vs' : List Value} (he : e ≠ e') (h : RowAt w e 1 s vs) (h' : RowAt w e' 1 s' vs') : ∀ i ∈ blkOf s, i ∉ blkOf s' := fun i hi hi' => by
  obtain ⟨_, rfl | ⟨g, cur, h3, h4, _⟩⟩ := h
  · simp [blkOf] at hi
  obtain ⟨_, rfl | ⟨g', cur', h3', h4', _⟩⟩ := h'
  · simp [blkOf] at hi'
  simp [blkOf, h3] at hi
  simp [blkOf, h3'] at hi'
  subst hi
  subst hi'
  rw [h4] at h4'
  cases h4'
  exact he rfl
theorem find_name {R : List RP} (hn : (R.map (·.name)).Nodup) {k : Nat} {r : RP} (h : R[k]? = some r) : findS R r.name = (k : Int) := by
  have hin : isIn (R.map RP.dat) r.name = true := by
    rw [← find_isIn, List.any_eq_true]; exact ⟨r, List.mem_of_getElem? h, by simp⟩
  obtain ⟨k', r', e1, e2, e3, _⟩ := findS_at hin
  have a1 : (R.map (·.name))[k]? = some r.name := by rw [List.getElem?_map, h]; rfl
  have a2 : (R.map (·.name))[k']? = some r.name := by rw [List.getElem?_map, e2]; simp [e3]
  have := (List.getElem?_inj (by simpa using (List.getElem?_eq_some_iff.1 h).1) hn).1 (a1.trans a2.symm)
  rw [e1, this]
/-- What each reaches, by numbers. -/
def RowsReach (w : World) (l : List Mod) (t6 : SV) : Prop := ∃ ts : List SV, RowAt w 89 1 t6 (ts.map slV) ∧ ts.length = (RL l).length ∧ ∀ (i : Nat) t r, ts[i]? = some t → (RL l)[i]? = some r → ∃ V, RowAt w 4 1 t (boolsV (RL l) V) ∧ ∀ y, y ∈ V ↔ Reached (PL l) r.name y
theorem RowsReach.pu {w w' : World} {l : List Mod} {t6 : SV} (h : RowsReach w l t6) (hp : Pu w w') : RowsReach w' l t6 := let ⟨ts, h1, h2, h3⟩ := h; ⟨ts, h1.pu hp, h2, fun i t r a b => let ⟨V, c, d⟩ := h3 i t r a b; ⟨V, c.pu hp, d⟩⟩
/-- Whether x reaches y, read. -/
theorem RowsReach.at {w : World} {l : List Mod} {t6 : SV} (h : RowsReach w l t6) {i j : Nat} {x y : RP} (hi : (RL l)[i]? = some x) (hj : (RL l)[j]? = some y) : ∃ (a : Addr) (t : SV) (a' : Addr) (b : Bool), t6.a = some a ∧ i < t6.len ∧ w.cell? (a.add (i * 1)) = some (.slice t.a t.len t.cap) ∧ t.a = some a' ∧ j < t.len ∧ w.cell? (a'.add (j * 1)) = some (.bool b) ∧ (b = true ↔ Reached (PL l) x.name y.name) := by
  obtain ⟨ts, h1, h2, h3⟩ := h
  obtain ⟨t, ht⟩ := at_k (l := ts) (k := i) (by rw [h2]; exact (List.getElem?_eq_some_iff.1 hi).1)
  obtain ⟨V, h4, h5⟩ := h3 i t x ht hi
  obtain ⟨a, ha, hc, _⟩ := h1.cell (j := i) (v := slV t) (by simp [ht])
  obtain ⟨a', ha', hc', _⟩ := h4.cell (j := j) (v := .bool (has V y.name)) (by rw [boolsV, List.getElem?_map, hj]; rfl)
  have hl6 : t6.len = ts.length := by have := h1.1; simp at this; omega
  have hl : t.len = (RL l).length := by have := h4.1; rw [boolsV_len] at this; omega
  have hil := (List.getElem?_eq_some_iff.1 hi).1
  have hjl := (List.getElem?_eq_some_iff.1 hj).1
  exact ⟨a, t, a', _, ha, by omega, by simpa using hc, ha', by omega, by simpa using hc', has_iff.trans (h5 _)⟩
theorem ring_take {D : List PDat} {N : List ByteArray} {x y : ByteArray} {j : Nat} (h : N[j]? = some y) : ((Reached D x y ∧ Reached D y x) → ringL D (N.take (j + 1)) x = ringL D (N.take j) x ++ [y]) ∧ (¬ (Reached D x y ∧ Reached D y x) → ringL D (N.take (j + 1)) x = ringL D (N.take j) x) := by
  unfold ringL
  rw [take_at h, List.filter_append]
  refine ⟨fun hr => ?_, fun hr => ?_⟩
  · rw [List.filter_cons, if_pos (by simpa using hr)]; rfl
  · rw [List.filter_cons, if_neg (by simpa using hr)]; simp

set_option maxHeartbeats 2000000 in
/-- The tables are made. -/
theorem rowsReach_c (w1 : World) (t5 : SV) (l : List Mod) (hR : RdSl w1 t5 (RL l)) (ho : openE l = 0) (R : Rt) (hK : ∀ w' t6, Pu w1 w' → RowsReach w' l t6 → t6.len = (RL l).length → F38_23 R t5 t6 [] w') :
    ∃ l29 : SV, ∃ w38 : World, (Instr.makeSlice 98 (.int .i64 ((t5.len : Nat) : Int)) (.int .i64 ((t5.len : Nat) : Int))).run Try.prog w1 = .ok (.slice l29.a l29.len l29.cap) w38 ∧ F38_26 R t5 l29 0 [] w38 := by
  have hF := fits_of (open_valid ho)
  have hRl : (RL l).length ≤ 100 := by rw [RL_len hF]; exact hF.procs
  have hlen := hR.len
  obtain ⟨i, q1, q2, q3, q4⟩ := info_parts info89
  obtain ⟨w2, hmk, hrow, hp2, hs2⟩ := row_make (P := Try.prog) (w := w1) u98 q1 q2 q3 .i64 .i64 t5.len (by rw [q4]; omega) (by omega)
  have hrow : RowAt w2 89 1 ⟨some ⟨w1.heap.size, 0, none⟩, t5.len, t5.len⟩ (List.replicate (RL l).length (slV ⟨none, 0, 0⟩)) := by
    rw [show (Value.slice none 0 0).cells = #[.slice none 0 0] from rfl, made_one, Nat.mul_one, hlen] at hrow
    rw [hlen]; exact hrow
  refine ⟨⟨some ⟨w1.heap.size, 0, none⟩, t5.len, t5.len⟩, w2, hmk, ?_⟩
  refine loopUp (RL l).length (fun k t w' => t = (k : Int) ∧ Pu w1 w' ∧ ∃ ts : List SV, ts.length = k ∧ RowAt w' 89 1 ⟨some ⟨w1.heap.size, 0, none⟩, t5.len, t5.len⟩ (ts.map slV ++ List.replicate ((RL l).length - k) (slV ⟨none, 0, 0⟩)) ∧ ∀ (i : Nat) t r, ts[i]? = some t → (RL l)[i]? = some r → ∃ V, RowAt w' 4 1 t (boolsV (RL l) V) ∧ ∀ y, y ∈ V ↔ Reached (PL l) r.name y)
    ⟨rfl, hp2, [], rfl, by simpa using hrow, fun i t r h => by simp at h⟩ ?_
  rintro k J t w3 hk ⟨rfl, hp3, ts, hts, hr3, hin⟩ hJ
  refine Br.of (fun hlt => ?_) (fun hge => ?_)
  · have hlt' : k < (RL l).length := by have := dtrue hlt; omega
    obtain ⟨r, hr⟩ := at_k hlt'
    have hrin : isIn (PL l) r.name = true := by
      rw [← RL_dat hF.sizes, ← find_isIn, List.any_eq_true]; exact ⟨r, List.mem_of_getElem? hr, by simp⟩
    have hcall := rSearch_l w3 t5 l (hR.pu hp3) ho r.name hrin
    rw [find_name (RL_names hF) hr] at hcall
    refine Calls.mono hcall ?_
    rintro e w4 ⟨t40, V, rfl, hrowV, hV, hp4⟩
    refine ⟨t40, rfl, ?_⟩
    obtain ⟨a33, ha33, hst⟩ := (hr3.pu hp4).st1 (j := k) (by simp [hts]; omega) (slV t40) (K := J ((k : Int) + 1)) fun w5 hr5 hf5 hs5 => by
      have hB : ∀ i ∈ blkOf (⟨some ⟨w1.heap.size, 0, none⟩, t5.len, t5.len⟩ : SV), w1.heap.size ≤ i := fun i hi => by simp [blkOf] at hi; omega
      have keep : ∀ {t : SV} {V' : List ByteArray}, RowAt w4 4 1 t (boolsV (RL l) V') → RowAt w5 4 1 t (boolsV (RL l) V') := fun h => h.fr hf5 (row_ne (by decide) h (hr3.pu hp4))
      refine hJ _ _ hlt' ⟨rfl, Pu.andNew (hp3.trans hp4) hf5 hB, ts ++ [t40], by simp [hts], ?_, fun i t q ht hq => ?_⟩
      · have e := fill_set (z := slV ⟨none, 0, 0⟩) (v := slV t40) (ts.map slV) ((RL l).length - (k + 1))
        rw [List.length_map, hts, show (RL l).length - (k + 1) + 1 = (RL l).length - k by omega] at e
        rw [e] at hr5
        simpa using hr5
      · by_cases hi : i < ts.length
        · rw [List.getElem?_append_left hi] at ht
          obtain ⟨V', g1, g2⟩ := hin i t q ht hq
          exact ⟨V', keep (g1.pu hp4), g2⟩
        · have hil := (List.getElem?_eq_some_iff.1 ht).1
          simp at hil
          have : i = k := by omega
          subst this
          rw [List.getElem?_append_right (by omega), hts, Nat.sub_self] at ht
          simp at ht; subst ht
          rw [hr] at hq; cases hq
          exact ⟨V, keep hrowV, hV⟩
    refine ⟨a33, ha33, by omega, by show (k : Int) < ((t5.len : Nat) : Int); omega, ?_⟩
    rw [wrap_in (n := (k : Int) + 1) (by omega) (by omega)]
    simpa using hst
  · have hge' : k = (RL l).length := by have := dfalse hge; omega
    rw [hge', Nat.sub_self, List.replicate_zero, List.append_nil] at hr3
    exact hK w3 _ hp3 ⟨ts, hr3, by omega, hin⟩ hlen

set_option maxHeartbeats 2000000 in
/-- The names are put down, and set in order. -/
theorem namesDown_c (w1 : World) (t5 t6 : SV) (l : List Mod) (hR : RdSl w1 t5 (RL l)) (ho : openE l = 0) (R : Rt) (hK : ∀ w' l60, Pu w1 w' → RdSl w' l60 (namesS l) → alE (.map #[] 0) w' fun r61 w27 => F38_18 R t5 t6 ⟨none, 0, 0⟩ l60 (some r61) 0 [] w27) : F38_23 R t5 t6 [] w1 := by
  have hF := fits_of (open_valid ho)
  have hRl : (RL l).length ≤ 100 := by rw [RL_len hF]; exact hF.procs
  have hlen := hR.len
  obtain ⟨i, q1, q2, q3, q4⟩ := info_parts info_str
  obtain ⟨w2, hmk, hrow, hp2, hs2⟩ := row_make (P := Try.prog) (w := w1) u23 q1 q2 q3 .i64 .i64 t5.len (by rw [q4]; omega) (by omega)
  have hrow : RowAt w2 9 1 ⟨some ⟨w1.heap.size, 0, none⟩, t5.len, t5.len⟩ (List.replicate (RL l).length (.string noName)) := by
    rw [show (Value.string ⟨#[]⟩).cells = #[.string noName] from rfl, made_one, Nat.mul_one, hlen] at hrow
    rw [hlen]; exact hrow
  refine ⟨⟨some ⟨w1.heap.size, 0, none⟩, t5.len, t5.len⟩, w2, hmk, ?_⟩
  refine loopUp (RL l).length (fun k t w' => t = (k : Int) ∧ Pu w1 w' ∧ RowAt w' 9 1 ⟨some ⟨w1.heap.size, 0, none⟩, t5.len, t5.len⟩ (strV (((RL l).take k).map (·.name)) ++ List.replicate ((RL l).length - k) (.string noName)))
    ⟨rfl, hp2, by simpa using hrow⟩ ?_
  rintro k J t w3 hk ⟨rfl, hp3, hr3⟩ hJ
  refine Br.of (fun hlt => ?_) (fun hge => ?_)
  · have hlt' : k < (RL l).length := by have := dtrue hlt; omega
    obtain ⟨r, hr⟩ := at_k hlt'
    obtain ⟨a, tc, ha, hia, htc, c0, c1, c2, c3⟩ := rpAt (hR.pu hp3) hr
    obtain ⟨a29, ha29, hst⟩ := hr3.st1 (j := k) (by simp; omega) (.string r.name) (K := J ((k : Int) + 1)) fun w5 hr5 hf5 hs5 => by
      refine hJ _ _ hlt' ⟨rfl, Pu.andNew hp3 hf5 fun i hi => by simp [blkOf] at hi; omega, ?_⟩
      have e := fill_set (z := .string noName) (v := .string r.name) (strV (((RL l).take k).map (·.name))) ((RL l).length - (k + 1))
      rw [show (strV (((RL l).take k).map (·.name))).length = k by simp; omega, show (RL l).length - (k + 1) + 1 = (RL l).length - k by omega] at e
      rw [e] at hr5
      rw [take_at hr]
      simpa [strV] using hr5
    refine ⟨a, ha, by omega, by omega, r.name, by simpa using c0, a29, ha29, by omega, by show (k : Int) < ((t5.len : Nat) : Int); omega, ?_⟩
    rw [wrap_in (n := (k : Int) + 1) (by omega) (by omega)]
    simpa using hst
  · have hge' : k = (RL l).length := by have := dfalse hge; omega
    rw [hge', Nat.sub_self, List.replicate_zero, List.append_nil, List.take_length] at hr3
    refine Calls.mono (set_c w3 _ ((RL l).map (·.name)) (rd_of_row hr3 (by simp; omega)) (by simp; omega)) ?_
    rintro e w4 ⟨l60, rfl, hl60, hrow60, _, hp4⟩
    refine ⟨l60, rfl, ?_⟩
    have hN : setS ((RL l).map (·.name)) = namesS l := asc_ext (setS_sorted _) (names_asc hF) fun y => by
      rw [mem_setS, mem_names hF, List.mem_map]
    rw [hN] at hrow60
    refine hK w4 l60 (hp3.trans hp4) (rd_of_row hrow60 ?_)
    have := namesS_len l
    rw [← RL_dat hF.sizes, List.length_map] at this
    omega
end Go.Proofs.Ytcnenlmhbpijlaa

/- Link: the reference's Rings. No condition but the reach's. -/
set_option maxRecDepth 100000
set_option linter.unusedVariables false
set_option linter.unusedSimpArgs false
namespace Go.Proofs.Ytcnenlmhbpijlaa
open Go.Sh Go.RowKit

theorem has_snoc (A : List ByteArray) (c x : ByteArray) : has (A ++ [c]) x = (has A x || decide (c = x)) := by
  rw [Bool.eq_iff_iff, Bool.or_eq_true, has_iff, has_iff, decide_eq_true_eq, List.mem_append, List.mem_singleton]
  exact ⟨fun h => h.imp id Eq.symm, fun h => h.imp id Eq.symm⟩
theorem name_at {l : List Mod} (hF : Fits l) {x : ByteArray} (hx : x ∈ namesS l) : ∃ (k : Nat) (r : RP), findS (RL l) x = (k : Int) ∧ (RL l)[k]? = some r ∧ r.name = x ∧ r.calls = (getD (PL l) x).2 := by
  obtain ⟨r, hr, rfl⟩ := (mem_names hF).1 hx
  have hin : isIn ((RL l).map RP.dat) r.name = true := by
    rw [← find_isIn, List.any_eq_true]; exact ⟨r, hr, by simp⟩
  obtain ⟨k, q, e1, e2, e3, e4⟩ := findS_at hin
  rw [RL_dat hF.sizes] at e4
  exact ⟨k, q, e1, e2, e3, by rw [← e4]⟩

set_option maxHeartbeats 4000000 in
theorem rRings_c (w : World) (s : SV) (l : List Mod) (hl : RdSl w s l) : Calls Try.prog 38 #[.slice s.a s.len s.cap] w fun e w' => ∃ t : SV, e = .returned (.tuple #[.slice t.a t.len t.cap, .int .i64 (ringsR l).2]) ∧ RdSl w' t (ringsR l).1 ∧ Pu w w' := by
  refine F38_calls s w _ ?_
  refine Calls.mono (whole_c w s l hl) ?_
  rintro e w1 ⟨rfl, hp1⟩
  refine ⟨_, rfl, Br.of (fun h1 => ?_) (fun h1 => ?_)⟩
  · have h1 : openE l ≠ 0 := by simpa using h1
    exact ⟨⟨none, 0, 0⟩, by rw [ringsR, if_neg h1], by rw [ringsR, if_neg h1]; exact RdSl.nil w1 none 0, hp1⟩
  have h1 : openE l = 0 := by simpa using h1
  have hF := fits_of (open_valid h1)
  have hRl : (RL l).length ≤ 100 := by rw [RL_len hF]; exact hF.procs
  refine Calls.mono (all_c w1 s l (hl.pu hp1) hF) ?_
  rintro e w2 ⟨t5, rfl, hR, hp2⟩
  refine ⟨t5, rfl, ?_⟩
  refine rowsReach_c w2 t5 l hR h1 _ fun w3 t6 hp3 hrows ht6 => ?_
  refine namesDown_c w3 t5 t6 l (hR.pu hp3) h1 _ fun w4 l60 hp4 hN0 => ?_
  refine alE_intro fun w5 hw5 => ?_
  have hp5 : Pu w4 w5 := by rw [hw5]; exact Pu.alloc w4 _
  have z5 : w5.heap.size = w4.heap.size + 1 := by rw [hw5]; simp
  have hS5 : SetAt w5 w4.heap.size [] := by rw [hw5]; exact SetAt.new w4
  have hR4 := (hR.pu hp3).pu hp4
  have hrows4 := hrows.pu hp4
  have hlen := hR.len
  have hnl : (namesS l).length = (RL l).length := by rw [namesS_len, ← RL_dat hF.sizes, List.length_map]
  have hl60 := hN0.len
  generalize hN : namesS l = N at hN0 hnl hl60
  have hat : ∀ x ∈ N, ∃ (k : Nat) (r : RP), findS (RL l) x = (k : Int) ∧ (RL l)[k]? = some r ∧ r.name = x ∧ r.calls = (getD (PL l) x).2 := fun x hx => name_at hF (by rw [hN]; exact hx)
  have hD100 := getD_len hF
  generalize hD : PL l = D at hat hD100
  refine loopUp N.length (fun k t w' => t.2 = (k : Int) ∧ ∃ (seen : List ByteArray) (cs : List SV), cs.length = (ringsGo D N [] (N.take k)).length ∧ SetAt w' w4.heap.size seen ∧ (∀ z, z ∈ seen ↔ ∃ y ∈ N.take k, z ∈ ringL D N y) ∧ Fam w' w5.heap.size (famR t.1 cs (ringsGo D N [] (N.take k))) ∧ Pu w4 w' ∧ w5.heap.size ≤ w'.heap.size)
    ⟨rfl, [], [], by simp [ringsGo], hS5, by simp, by simpa [ringsGo, famR] using (Fam.nil w5 w5.heap.size).none 23, hp5, Nat.le_refl _⟩ ?_
  rintro k J ⟨l8, t⟩ w6 hk ⟨ht, seen, cs, hcs, hS6, hseen, hfam, hp6, hz6⟩ hJ
  obtain rfl : t = (k : Int) := ht
  generalize hrg : ringsGo D N [] (N.take k) = rings at hcs hfam
  have hrk : rings.length ≤ k := by
    rw [← hrg]
    have h1 := ringsGo_len D N (N.take k) []
    have h2 : (N.take k).length ≤ k := by simp; omega
    omega
  have hfam : Fam w6 w5.heap.size (famR l8 cs rings) := hfam
  have hl8 : l8.len = cs.length := by have := (hfam.1 0 _ rfl).1.1; simp at this; omega
  dsimp only
  refine Br.of (fun hlt => ?_) (fun hge => ?_)
  case refine_2 =>
    have hge' : ¬ k < N.length := by have := dfalse hge; omega
    rw [take_end hk hge'] at hrg
    have hRR : ringsR l = (rings, 0) := by rw [ringsR, if_pos h1, ringsS, hN, hD, hrg]
    refine ⟨l8, by rw [hRR], ?_, ((hp1.trans hp2).trans hp3).trans (hp4.trans hp6)⟩
    rw [hRR]
    refine rd_of_famR hfam hcs (by show rings.length ≤ _; omega) fun q hq => ?_
    rw [← hrg] at hq
    have := ringsGo_mem hq
    omega
  have hlt' : k < N.length := by have := dtrue hlt; omega
  obtain ⟨x, hx⟩ := at_k hlt'
  have hxN := List.mem_of_getElem? hx
  obtain ⟨ix, rx, ex, hrx, hrxn, hrxc⟩ := hat x hxN
  have hixl := (List.getElem?_eq_some_iff.1 hrx).1
  obtain ⟨a24, ha24, hi24, hc24⟩ := (hN0.pu hp6).str hx
  refine ⟨a24, ha24, by omega, by omega, x, by simpa using hc24, ?_⟩
  refine Calls.mono (find_c w6 t5 (RL l) (hR4.pu hp6) x) ?_
  rintro e w6' ⟨rfl, hw6'⟩
  subst hw6'
  refine ⟨_, rfl, ?_⟩
  rw [ex]
  have hxring : x ∈ ringL D N x := mem_ring.2 ⟨hxN, .self, .self⟩
  have hgo := ringsGo_snoc D N x (N.take k) []
  rw [← take_at hx, hrg, List.nil_append] at hgo
  -- who is in the ring
  refine loopUp N.length (fun j t w' => t.2 = (j : Int) ∧ Fam w' w5.heap.size (⟨9, t.1, strV (ringL D (N.take j) x)⟩ :: famR l8 cs rings) ∧ SetAt w' w4.heap.size seen ∧ Pu w4 w' ∧ w5.heap.size ≤ w'.heap.size)
    ⟨rfl, by simpa [ringL] using hfam.none 9, hS6, hp6, hz6⟩ ?_
  rintro j J2 ⟨l14, t⟩ w7 hj ⟨ht, hfam7, hS7, hp7, hz7⟩ hJ2
  obtain rfl : t = (j : Int) := ht
  have hfam7 : Fam w7 w5.heap.size (⟨9, l14, strV (ringL D (N.take j) x)⟩ :: famR l8 cs rings) := hfam7
  have hl14 : l14.len = (ringL D (N.take j) x).length := by have := (hfam7.1 0 _ rfl).1.1; simp at this; omega
  have hrl : (ringL D (N.take j) x).length ≤ 100 := by
    have h1 : (ringL D (N.take j) x).length ≤ (N.take j).length := List.length_filter_le _ _
    have h2 : (N.take j).length ≤ N.length := by simp; omega
    omega
  dsimp only
  refine Br.of (fun hlt2 => ?_) (fun hge2 => ?_)
  · have hlt2' : j < N.length := by have := dtrue hlt2; omega
    obtain ⟨y, hy⟩ := at_k hlt2'
    obtain ⟨iy, ry, ey, hry, hryn, _⟩ := hat y (List.mem_of_getElem? hy)
    have hiyl := (List.getElem?_eq_some_iff.1 hry).1
    obtain ⟨a15, ha15, hi15, hc15⟩ := (hN0.pu hp7).str hy
    refine ⟨a15, ha15, by omega, by omega, y, by simpa using hc15, ?_⟩
    refine Calls.mono (find_c w7 t5 (RL l) (hR4.pu hp7) y) ?_
    rintro e w7' ⟨rfl, hw7'⟩
    subst hw7'
    refine ⟨_, rfl, ?_⟩
    rw [ey]
    obtain ⟨a17, t1, a18, b1, ha17, hi17, hc17, ha18, hi18, hc18, hb1⟩ := (hrows4.pu hp7).at hrx hry
    obtain ⟨a19, t2, a20, b2, ha19, hi19, hc19, ha20, hi20, hc20, hb2⟩ := (hrows4.pu hp7).at hry hrx
    rw [hrxn, hryn, hD] at hb1 hb2
    obtain ⟨rt1, rt2⟩ := ring_take (D := D) (x := x) hy
    have skip : ¬ (Reached D x y ∧ Reached D y x) → J2 (l14, IntKind.i64.wrap ((j : Int) + 1)) w7' := fun hno => by
      rw [wrap_in (n := (j : Int) + 1) (by omega) (by omega)]
      exact hJ2 _ _ hlt2' ⟨rfl, by rw [rt2 hno]; exact hfam7, hS7, hp7, hz7⟩
    refine ⟨a17, ha17, by omega, by omega, t1, by simpa using hc17, a18, ha18, by omega, by omega, b1, by simpa using hc18, Br.of (fun h2 => ?_) (fun h2 => skip fun hr => by rw [hb1.2 hr.1] at h2; cases h2)⟩
    refine ⟨a19, ha19, by omega, by omega, t2, by simpa using hc19, a20, ha20, by omega, by omega, b2, by simpa using hc20, Br.of (fun h3 => ?_) (fun h3 => skip fun hr => by rw [hb2.2 hr.2] at h3; cases h3)⟩
    have hr1 := rt1 ⟨hb1.1 h2, hb2.1 h3⟩
    refine ⟨a15, ha15, by omega, by omega, y, by simpa using hc15, ?_⟩
    refine alE_intro fun w8 hw8 => ?_
    have hp8 : Pu w7' w8 := by rw [hw8]; exact Pu.alloc w7' _
    have hn8 : w8.heap[w7'.heap.size]? = some (.cells #[.string y] 9) := by rw [hw8]; exact alloc_new w7' _
    have hfam8 := hfam7.pu hp8
    have hb8 := (hfam8.1 0 _ rfl).2
    obtain ⟨l108, w9, hra, hrow9, hf9, hblk9, _⟩ := row_push (P := Try.prog) (ty := 23) (t := 23) u23 info_str rfl (s := l14) (hfam8.1 0 _ rfl).1 (a := ⟨w7'.heap.size, 0, none⟩) (u := .string y) (by rw [cell_blk hn8]; rfl) rfl (by omega)
    refine ⟨l108, w9, hra, ?_⟩
    have hs8 := hp8.size
    have hs9 := hf9.size
    have hfam9 := Fam.upd hfam8 (k := 0) rfl hrow9 hf9 hblk9 (by omega)
    rw [wrap_in (n := (j : Int) + 1) (by omega) (by omega)]
    refine hJ2 _ _ hlt2' ⟨rfl, ?_, (hS7.pu hp8).fr hf9 fun h => by have := hb8 _ h; omega, Pu.andNew (hp7.trans hp8) hf9 fun i hi => by have := hb8 i hi; omega, by omega⟩
    rw [hr1]
    have e : strV (ringL D (N.take j) x ++ [y]) = strV (ringL D (N.take j) x) ++ [.string y] := by simp [strV]
    rw [e]
    exact hfam9
  have hge2' : ¬ j < N.length := by have := dfalse hge2; omega
  rw [take_end hj hge2'] at hfam7 hl14 hrl
  have hfamR : Fam w7 w5.heap.size (⟨9, l14, strV (ringL D N x)⟩ :: famR l8 cs rings) := hfam7
  have hrow14 := (hfamR.1 0 _ rfl).1
  -- the ring's members are marked
  have mark : ∀ (u : World) (l8' : SV) (cs' : List SV) (rings' : List (List ByteArray)), Pu w4 u → SetAt u w4.heap.size seen → RowAt u 9 1 l14 (strV (ringL D N x)) → Fam u w5.heap.size (famR l8' cs' rings') → cs'.length = rings'.length → rings' = ringsGo D N [] (N.take (k + 1)) → w5.heap.size ≤ u.heap.size → (∀ i ∈ blkOf l14, w5.heap.size ≤ i) →
      F38_5 (fun e w' => ∃ t : SV, e = .returned (.tuple #[.slice t.a t.len t.cap, .int .i64 (ringsR l).2]) ∧ RdSl w' t (ringsR l).1 ∧ Pu w w') J t5 t6 l8' l60 (some w4.heap.size) (k : Int) l14 0 [] u := fun u l8' cs' rings' hpu hSu hru hfu hcl hrr hzu hb14 => by
    refine loopUp (ringL D N x).length (fun n t w' => t = (n : Int) ∧ ∃ seen', SetAt w' w4.heap.size seen' ∧ (∀ z, z ∈ seen' ↔ z ∈ seen ∨ z ∈ (ringL D N x).take n) ∧ Pu w4 w' ∧ RowAt w' 9 1 l14 (strV (ringL D N x)) ∧ Fam w' w5.heap.size (famR l8' cs' rings') ∧ w5.heap.size ≤ w'.heap.size)
      ⟨rfl, seen, hSu, by simp, hpu, hru, hfu, hzu⟩ ?_
    rintro n J3 t u1 hn ⟨rfl, seen', hSu1, hsn, hpu1, hru1, hfu1, hzu1⟩ hJ3
    refine Br.of (fun hlt3 => ?_) (fun hge3 => ?_)
    · have hlt3' : n < (ringL D N x).length := by have := dtrue hlt3; omega
      obtain ⟨y, hy⟩ := at_k hlt3'
      obtain ⟨a2, ha2, hc2, _⟩ := hru1.cell (j := n) (v := .string y) (by simp [hy])
      refine ⟨a2, ha2, by omega, by omega, y, by simpa using hc2, ?_⟩
      obtain ⟨u2, hrun, hSu2, hfu2, hsu2⟩ := hSu1.add y
      refine ⟨u2, hrun, ?_⟩
      rw [wrap_in (n := (n : Int) + 1) (by omega) (by omega)]
      refine hJ3 _ _ hlt3' ⟨rfl, _, hSu2, fun z => ?_, Pu.andNew hpu1 hfu2 fun i hi => by have hi : i = _ := hi; omega, hru1.fr hfu2 fun i hi h => by have h : i = _ := h; have := hb14 i hi; omega, hfu1.fr hfu2 fun i hi => by have hi : i = _ := hi; omega, by omega⟩
      rw [take_at hy, List.mem_append, List.mem_singleton, ← or_assoc, ← hsn z]
      by_cases hys : has seen' y = true
      · rw [if_pos hys]
        exact ⟨fun h => .inl h, fun h => h.elim id fun e => by rw [e]; exact has_iff.1 hys⟩
      · rw [if_neg hys, List.mem_append, List.mem_singleton]
    · have hge3' : ¬ n < (ringL D N x).length := by have := dfalse hge3; omega
      rw [take_end hn hge3'] at hsn
      show J _ _
      rw [wrap_in (n := (k : Int) + 1) (by omega) (by omega)]
      refine hJ _ _ hlt' ⟨rfl, seen', cs', by rw [← hrr]; exact hcl, hSu1, fun z => ?_, by rw [← hrr]; exact hfu1, hpu1, hzu1⟩
      rw [hsn, hseen, take_at hx]
      constructor
      · rintro (⟨y, hy, hz⟩ | hz)
        · exact ⟨y, List.mem_append_left _ hy, hz⟩
        · exact ⟨x, by simp, hz⟩
      · rintro ⟨y, hy, hz⟩
        rcases List.mem_append.1 hy with hy | hy
        · exact .inl ⟨y, hy, hz⟩
        · simp at hy; subst hy; exact .inr hz
  have hb14 := (hfamR.1 0 _ rfl).2
  -- left
  have leave : ∀ u : World, Pu w7 u → keepB D N (N.take k) x = false → F38_5 (fun e w' => ∃ t : SV, e = .returned (.tuple #[.slice t.a t.len t.cap, .int .i64 (ringsR l).2]) ∧ RdSl w' t (ringsR l).1 ∧ Pu w w') J t5 t6 l8 l60 (some w4.heap.size) (k : Int) l14 0 [] u := fun u hu hkb => by
    rw [hkb] at hgo
    simp only [Bool.false_eq_true, if_false, List.append_nil] at hgo
    exact mark u l8 cs rings (hp7.trans hu) (hS7.pu hu) (hrow14.pu hu) (hfamR.pu hu).tail hcs hgo.symm (by have := hu.size; omega) hb14
  -- kept
  have put : ∀ u : World, Pu w7 u → keepB D N (N.take k) x = true → alE (.cells #[.slice l14.a l14.len l14.cap] 23) u fun r152 w6 => ∃ l153 : SV, ∃ w7 : World, (Builtin.append_ #[31, 31] 31 #[.slice l8.a l8.len l8.cap, .slice (some ⟨r152, 0, none⟩) 1 1]).run Try.prog w6 = .ok (.slice l153.a l153.len l153.cap) w7 ∧
      F38_5 (fun e w' => ∃ t : SV, e = .returned (.tuple #[.slice t.a t.len t.cap, .int .i64 (ringsR l).2]) ∧ RdSl w' t (ringsR l).1 ∧ Pu w w') J t5 t6 l153 l60 (some w4.heap.size) (k : Int) l14 0 [] w7 := fun u hu hkb => by
    rw [hkb] at hgo
    refine alE_intro fun u1 hu1 => ?_
    have hpu1 : Pu u u1 := by rw [hu1]; exact Pu.alloc u _
    have hn1 : u1.heap[u.heap.size]? = some (.cells #[.slice l14.a l14.len l14.cap] 23) := by rw [hu1]; exact alloc_new u _
    have hfu1 := (hfamR.pu hu).pu hpu1
    have hb8 := (hfu1.1 1 _ rfl).2
    obtain ⟨l153, u2, hra, hrow2, hf2, hblk2, _⟩ := row_push (P := Try.prog) (ty := 31) (t := 31) u31 info23 rfl (s := l8) (hfu1.1 1 _ rfl).1 (a := ⟨u.heap.size, 0, none⟩) (u := slV l14) (by rw [cell_blk hn1]; rfl) rfl (by omega)
    refine ⟨l153, u2, hra, ?_⟩
    have hsu := hu.size
    have hsu1 := hpu1.size
    have hsu2 := hf2.size
    have hfu2 := Fam.upd hfu1 (k := 1) rfl hrow2 hf2 hblk2 (by omega)
    refine mark u2 l153 (cs ++ [l14]) (rings ++ [ringL D N x]) (Pu.andNew ((hp7.trans hu).trans hpu1) hf2 fun i hi => by have := hb8 i hi; omega) (((hS7.pu hu).pu hpu1).fr hf2 fun h => by have := hb8 _ h; omega) (hfu2.1 0 _ rfl).1 ?_ (by simp [hcs]) (by rw [hgo]; simp) (by omega) hb14
    rw [famR_snoc _ _ _ _ _ hcs]
    exact hfu2.perm ((List.Perm.swap _ _ _).trans (List.Perm.cons _ (List.perm_append_singleton _ _).symm))
  -- does x call itself?
  have hcl := hD100 x
  rw [← hrxc] at hcl
  refine loopUp rx.calls.length (fun n t w' => t.2 = (n : Int) ∧ t.1 = has (rx.calls.take n) x ∧ Pu w7 w') ⟨rfl, by simp [has_false.2], Pu.refl w7⟩ ?_
  rintro n J4 ⟨b17, t⟩ w8 hn ⟨ht, hb17, hp8⟩ hJ4
  obtain rfl : t = (n : Int) := ht
  have hb17 : b17 = has (rx.calls.take n) x := hb17
  have hp48 := hp7.trans hp8
  dsimp only
  obtain ⟨a, tc, ha, hia, htc, c0, c1, c2, c3⟩ := rpAt (hR4.pu hp48) hrx
  have htl := htc.len
  refine ⟨a, ha, by omega, by omega, tc, by simpa using c3, Br.of (fun hlt4 => ?_) (fun hge4 => ?_)⟩
  · have hlt4' : n < rx.calls.length := by have := dtrue hlt4; omega
    obtain ⟨c, hc⟩ := at_k hlt4'
    refine dwE_intro fun w9 hp9 hh9 => ?_
    have hsn := has_snoc (rx.calls.take n) c x
    rw [← take_at hc, ← hb17] at hsn
    refine Br.of (fun h2 => ?_) (fun h2 => ?_)
    · rw [wrap_in (n := (n : Int) + 1) (by omega) (by omega)]
      rw [h2, Bool.true_or] at hsn
      exact hJ4 _ _ hlt4' ⟨rfl, hsn.symm, hp8.trans hp9⟩
    · obtain ⟨a', tc', ha', hia', htc', _, _, _, c3'⟩ := rpAt (hR4.pu (hp48.trans hp9)) hrx
      have htl' := htc'.len
      obtain ⟨a13, ha13, hi13, hc13⟩ := htc'.str hc
      obtain ⟨a14, ha14, hi14, hc14⟩ := (hN0.pu (hp48.trans hp9)).str hx
      refine ⟨a', ha', by omega, by omega, tc', by simpa using c3', a13, ha13, by omega, by omega, c, by simpa using hc13, a14, ha14, by omega, by omega, x, by simpa using hc14, ?_⟩
      rw [wrap_in (n := (n : Int) + 1) (by omega) (by omega), beq_bytes']
      rw [h2, Bool.false_or] at hsn
      exact hJ4 _ _ hlt4' ⟨rfl, hsn.symm, hp8.trans hp9⟩
  · have hge4' : ¬ n < rx.calls.length := by have := dfalse hge4; omega
    rw [take_end hn hge4', hrxc] at hb17
    have hp48' := hp48
    obtain ⟨a4, ha4, hi4, hc4⟩ := (hN0.pu hp48).str hx
    refine ⟨a4, ha4, by omega, by omega, x, by simpa using hc4, _, w8, (hS7.pu hp8).look x, ?_⟩
    refine Br.of (fun h2 => ?_) (fun h2 => ?_)
    · have h2 : has seen x = false := by simpa using h2
      have hnot : ∀ z ∈ N.take k, x ∉ ringL D N z := fun z hz hxz => has_false.1 h2 ((hseen x).2 ⟨z, hz, hxz⟩)
      have hkb := keepB_yes hnot
      refine Br.of (fun h3 => ?_) (fun h3 => ?_)
      · have h3 := dtrue h3
        exact put w8 hp8 (by rw [hkb, decide_eq_true (by omega), Bool.true_or])
      · have h3 := dfalse h3
        rw [decide_eq_false (by omega), Bool.false_or, ← hb17] at hkb
        exact Br.of (fun h4 => put w8 hp8 (by rw [hkb]; exact h4)) (fun h4 => leave w8 hp8 (by rw [hkb]; exact h4))
    · have h2 : has seen x = true := by simpa using h2
      obtain ⟨y, hy, hxy⟩ := (hseen x).1 (has_iff.1 h2)
      exact leave w8 hp8 (keepB_no hy hxy)
end Go.Proofs.Ytcnenlmhbpijlaa

/- Link: an order there is just where there is no ring; the law LinkOrders, walked. No condition but the reach's. -/
set_option maxRecDepth 100000
set_option linter.unusedVariables false
set_option linter.unusedSimpArgs false
namespace Go.Proofs.Ytcnenlmhbpijlaa
open Go.Sh Go.RowKit

def Cyc (D : List PDat) (x : ByteArray) : Prop := ∃ y ∈ (getD D x).2, Reached D y x
theorem Reached.first {D : List PDat} {x z : ByteArray} (h : Reached D x z) (hn : x ≠ z) : ∃ y ∈ (getD D x).2, Reached D y z := by
  induction h with
  | self => exact absurd rfl hn
  | @call y z hxy hz ih =>
    by_cases e : x = y
    · subst e; exact ⟨z, hz, .self⟩
    · obtain ⟨q, hq, hr⟩ := ih e
      exact ⟨q, hq, .call hr hz⟩
theorem Cyc.next {D : List PDat} {x y : ByteArray} (hy : y ∈ (getD D x).2) (h : Reached D y x) : Cyc D y := by
  by_cases e : y = x
  · subst e; exact ⟨y, hy, .self⟩
  · obtain ⟨q, hq, hr⟩ := h.first e
    exact ⟨q, hq, .call hr hy⟩
theorem Cyc.of_ring {D : List PDat} {x z : ByteArray} (h : Cyc D x) (h1 : Reached D z x) (h2 : Reached D x z) : Cyc D z := by
  by_cases e : z = x
  · subst e; exact h
  · obtain ⟨q, hq, hr⟩ := h1.first e
    exact ⟨q, hq, hr.trans h2⟩
theorem one_of {l : List ByteArray} (h : l.length ≤ 1) {a b : ByteArray} (ha : a ∈ l) (hb : b ∈ l) : a = b := by
  match l, h with
  | [], _ => simp at ha
  | [c], _ => simp at ha hb; rw [ha, hb]
/-- No ring: nothing calls itself in the end. -/
theorem rings_none {D : List PDat} {N : List ByteArray} (hin : ∀ x ∈ N, ∀ y ∈ (getD D x).2, y ∈ N) : ∀ (A done : List ByteArray), (∀ x ∈ A, x ∈ N) → ringsGo D N done A = [] → (∀ x ∈ done, ¬ Cyc D x) → ∀ x ∈ A, ¬ Cyc D x
  | [], _, _, _, _ => by simp
  | a :: A, done, hA, h, hd => by
    rw [ringsGo, List.append_eq_nil_iff] at h
    obtain ⟨h1, h2⟩ := h
    have haN := hA a List.mem_cons_self
    have hkb : keepB D N done a = false := by
      cases hk : keepB D N done a with
      | false => rfl
      | true => rw [hk] at h1; simp at h1
    have ha : ¬ Cyc D a := fun hc => by
      by_cases hz : ∃ z ∈ done, a ∈ ringL D N z
      · obtain ⟨z, hz, har⟩ := hz
        obtain ⟨_, r1, r2⟩ := mem_ring.1 har
        exact hd z hz (hc.of_ring r1 r2)
      · rw [keepB_yes fun z hz' hr => hz ⟨z, hz', hr⟩, Bool.or_eq_false_iff] at hkb
        obtain ⟨k1, k2⟩ := hkb
        have k1 := of_decide_eq_false k1
        obtain ⟨y, hy, hr⟩ := hc
        have hay : y = a := one_of (l := ringL D N a) (by omega) (mem_ring.2 ⟨hin a haN y hy, .call .self hy, hr⟩) (mem_ring.2 ⟨haN, .self, .self⟩)
        subst hay
        exact has_false.1 k2 hy
    intro x hx
    rcases List.mem_cons.1 hx with rfl | hx
    · exact ha
    · refine rings_none hin A (done ++ [a]) (fun x hx => hA x (List.mem_cons_of_mem _ hx)) h2 (fun x hx => ?_) x hx
      rcases List.mem_append.1 hx with hx | hx
      · exact hd x hx
      · simp at hx; subst hx; exact ha
theorem rings_some {D : List PDat} {N : List ByteArray} (hN : N.Nodup) : ∀ (A done : List ByteArray), (∀ x ∈ A, x ∈ N) → ringsGo D N done A ≠ [] → ∃ x ∈ A, Cyc D x
  | [], _, _, h => by simp [ringsGo] at h
  | a :: A, done, hA, h => by
    by_cases hk : keepB D N done a = true
    · refine ⟨a, List.mem_cons_self, ?_⟩
      have haN := hA a List.mem_cons_self
      have hno : ∀ z ∈ done, a ∉ ringL D N z := fun z hz hr => by rw [keepB_no hz hr] at hk; cases hk
      rw [keepB_yes hno, Bool.or_eq_true] at hk
      rcases hk with hk | hk
      · have hk := of_decide_eq_true hk
        have hnd : (ringL D N a).Nodup := hN.sublist List.filter_sublist
        obtain ⟨z, hz, hza⟩ : ∃ z ∈ ringL D N a, z ≠ a := by
          match hl : ringL D N a, hk, hnd with
          | b :: c :: r, _, hnd =>
            by_cases e : b = a
            · refine ⟨c, by simp, fun e2 => ?_⟩
              rw [List.nodup_cons] at hnd
              exact hnd.1 (by rw [e, ← e2]; simp)
            · exact ⟨b, by simp, e⟩
        obtain ⟨_, r1, r2⟩ := mem_ring.1 hz
        obtain ⟨y, hy, hr⟩ := r1.first (Ne.symm hza)
        exact ⟨y, hy, hr.trans r2⟩
      · exact ⟨a, has_iff.1 hk, .self⟩
    · rw [ringsGo, if_neg hk, List.nil_append] at h
      obtain ⟨x, hx, hc⟩ := rings_some hN A (done ++ [a]) (fun x hx => hA x (List.mem_cons_of_mem _ hx)) h
      exact ⟨x, List.mem_cons_of_mem _ hx, hc⟩

/-! ### Orders -/
def cntN (N out : List ByteArray) : Nat := N.countP fun x => !has out x
theorem cntN_add {N out : List ByteArray} (hN : N.Nodup) {x : ByteArray} (hx : x ∈ N) (ho : has out x = false) : cntN N (out ++ [x]) + 1 = cntN N out := by
  unfold cntN
  induction N with
  | nil => simp at hx
  | cons a N ih =>
    rw [List.nodup_cons] at hN
    simp only [List.countP_cons]
    by_cases e : a = x
    · subst e
      have h1 : has (out ++ [a]) a = true := has_iff.2 (by simp)
      have h2 : N.countP (fun x => !has (out ++ [a]) x) = N.countP (fun x => !has out x) := List.countP_congr fun y hy => by
        have : y ≠ a := fun e => hN.1 (e ▸ hy)
        rw [has_snoc, decide_eq_false (Ne.symm this), Bool.or_false]
      rw [h2, h1, ho]
      simp
    · have hx' : x ∈ N := by
        rcases List.mem_cons.1 hx with h | h
        · exact absurd h.symm e
        · exact h
      have := ih hN.2 hx'
      rw [has_snoc, decide_eq_false (Ne.symm e), Bool.or_false]
      omega
theorem ready_spec {D : List PDat} {out : List ByteArray} {x : ByteArray} : readyB D out x = true ↔ has out x = false ∧ ∀ y ∈ (getD D x).2, y ∈ out := by
  unfold readyB
  simp only [Bool.and_eq_true, Bool.not_eq_true', List.any_eq_false, Bool.not_eq_false, has_iff]
theorem order_cyc {D : List PDat} {N : List ByteArray} (hN : N.Nodup) {x : ByteArray} (hx : x ∈ N) (hc : Cyc D x) : ∀ (n : Nat) (out : List ByteArray), cntN N out = n → (∀ z ∈ out, ¬ Cyc D z) → orderGo D N n out = none := by
  intro n
  induction n with
  | zero =>
    intro out h0 ho
    exfalso
    have : has out x = true := by
      cases hh : has out x with
      | true => rfl
      | false =>
        have := (List.countP_eq_zero (p := fun x => !has out x) (l := N)).1 h0 x hx
        simp [hh] at this
    exact ho x (has_iff.1 this) hc
  | succ n ih =>
    intro out hn ho
    rw [orderGo]
    cases hf : N.find? (readyB D out) with
    | none => rfl
    | some z =>
      obtain ⟨r1, r2⟩ := ready_spec.1 (List.find?_some hf)
      have hz := List.mem_of_find?_eq_some hf
      refine ih (out ++ [z]) (by have := cntN_add hN hz r1; omega) fun q hq => ?_
      rcases List.mem_append.1 hq with hq | hq
      · exact ho q hq
      · simp at hq; subst hq
        rintro ⟨y, hy, hr⟩
        exact ho y (r2 y hy) (Cyc.next hy hr)
open Classical in
theorem ready_there {D : List PDat} {N out : List ByteArray} (hin : ∀ x ∈ N, ∀ y ∈ (getD D x).2, y ∈ N) (hac : ∀ x ∈ N, ¬ Cyc D x) : ∀ (n : Nat) (x : ByteArray), x ∈ N → has out x = false → N.countP (fun y => decide (Reached D x y)) ≤ n → ∃ z ∈ N, readyB D out z = true := by
  intro n
  induction n with
  | zero =>
    intro x hx _ hn
    have := (List.countP_eq_zero (p := fun y => decide (Reached D x y)) (l := N)).1 (by omega) x hx
    simp [Reached.self] at this
  | succ n ih =>
    intro x hx ho hn
    by_cases hr : readyB D out x = true
    · exact ⟨x, hx, hr⟩
    · have : ¬ ∀ y ∈ (getD D x).2, y ∈ out := fun h => hr (ready_spec.2 ⟨ho, h⟩)
      obtain ⟨y, hy⟩ := Classical.not_forall.1 this
      obtain ⟨hy, hyo⟩ := Classical.not_imp.1 hy
      have hlt : N.countP (fun z => decide (Reached D y z)) < N.countP (fun z => decide (Reached D x z)) :=
        countP_lt (fun z hz => decide_eq_true ((Reached.call .self hy).trans (of_decide_eq_true hz))) hx (decide_eq_true .self) (decide_eq_false fun h => hac x hx ⟨y, hy, h⟩)
      exact ih y (hin x hx y hy) (has_false.2 hyo) (by omega)
theorem order_acyc {D : List PDat} {N : List ByteArray} (hN : N.Nodup) (hin : ∀ x ∈ N, ∀ y ∈ (getD D x).2, y ∈ N) (hac : ∀ x ∈ N, ¬ Cyc D x) : ∀ (n : Nat) (out : List ByteArray), cntN N out = n → (orderGo D N n out).isSome = true := by
  intro n
  induction n with
  | zero => intro out _; rfl
  | succ n ih =>
    intro out hn
    obtain ⟨x, hx, hxo⟩ : ∃ x ∈ N, has out x = false := by
      have : 0 < N.countP (fun x => !has out x) := by show 0 < cntN N out; omega
      obtain ⟨x, hx, h⟩ := List.countP_pos_iff.1 this
      exact ⟨x, hx, by simpa using h⟩
    classical
    obtain ⟨z, hz, hr⟩ := ready_there hin hac _ x hx hxo (Nat.le_refl _)
    rw [orderGo]
    cases hf : N.find? (readyB D out) with
    | none => exact absurd hr (List.find?_eq_none.1 hf z hz)
    | some q =>
      obtain ⟨r1, _⟩ := ready_spec.1 (List.find?_some hf)
      have hq := List.mem_of_find?_eq_some hf
      exact ih (out ++ [q]) (by have := cntN_add hN hq r1; omega)
/-- An order there is just where there is no ring. -/
theorem order_ring {l : List Mod} (h : openE l = 0) : (orderO l).isSome = decide ((ringsS l).length = 0) := by
  have hF := fits_of (open_valid h)
  have hN : (namesS l).Nodup := by
    have h1 := hF.nodup
    rw [← PL_keys hF.callsL] at h1
    exact (srt_perm _).symm.nodup h1
  have hin : ∀ x ∈ namesS l, ∀ y ∈ (getD (PL l) x).2, y ∈ namesS l := fun x _ y hy => by
    obtain ⟨q, hq, e⟩ := isIn_mem (open_in h hy)
    rw [namesS, mem_srt]
    exact List.mem_map.2 ⟨q, hq, e⟩
  have hc0 : cntN (namesS l) [] = (namesS l).length := by
    unfold cntN
    rw [List.countP_eq_length]
    intro x _
    simp [has_false.2]
  by_cases hr : ringsS l = []
  · rw [hr]
    have hac := rings_none hin (namesS l) [] (fun x hx => hx) hr (by simp)
    exact order_acyc hN hin hac _ [] hc0
  · obtain ⟨x, hx, hc⟩ := rings_some hN (namesS l) [] (fun x hx => hx) hr
    have := order_cyc hN hx hc _ [] hc0 (by simp)
    have hne : ¬ (ringsS l).length = 0 := fun e => hr (List.eq_nil_of_length_eq_zero e)
    rw [decide_eq_false hne, orderO, this]
    rfl

theorem orders_k (w : World) (s : SV) (l : List Mod) (hl : RdSl w s l) (hL : Lim.ok l) : Calls Try.prog 10 #[.slice s.a s.len s.cap] w fun e w' => e = .returned (.bool true) ∧ Pu w w' := by
  refine F10_calls s w _ ?_
  have kn : ∀ w1 : World, Pu w w1 → Calls Try.prog 16 #[] w1 fun e w2 => ∃ b : Bool, e = .returned (.bool b) ∧ runD Try.prog [] w2 fun w3 => (Ending.returned (.bool b)) = .returned (.bool true) ∧ Pu w w3 := fun w1 hp => by
    refine Calls.mono (known_c w1) ?_
    rintro e w2 ⟨rfl, hp2⟩
    exact ⟨true, rfl, rfl, hp.trans hp2⟩
  refine Calls.mono (over_c w s l hl) ?_
  rintro e w1 ⟨b, rfl, hp1, hov⟩
  refine ⟨b, rfl, Br.of (fun _ => kn w1 hp1) (fun _ => ?_)⟩
  refine Calls.mono (rings_c w1 s l (hl.pu hp1) hL) ?_
  rintro e w2 ⟨t1, rfl, hr1, hp2⟩
  refine ⟨t1, _, rfl, ?_⟩
  have P2 := hp1.trans hp2
  refine Calls.mono (rRings_c w2 s l (hl.pu P2)) ?_
  rintro e w3 ⟨t2, rfl, hr2, hp3⟩
  refine ⟨t2, _, rfl, ?_⟩
  have P3 := P2.trans hp3
  have hr1 := hr1.pu hp3
  have hl1 := hr1.len
  have hl2 := hr2.len
  have hlm := hr1.lim
  refine Br.f (by simp; omega) (Br.f (by simp) ?_)
  refine loopUp (ringsR l).1.length (fun k t w' => t = (k : Int) ∧ Pu w3 w') ⟨rfl, Pu.refl w3⟩ ?_
  rintro k J t w4 hk ⟨rfl, hp4⟩ hJ
  refine Br.of (fun hlt => ?_) (fun hge => ?_)
  · have hlt' : k < (ringsR l).1.length := by have := dtrue hlt; omega
    obtain ⟨q, hq⟩ := at_k hlt'
    refine dwE_intro fun w5 hp5 hh5 => ?_
    have hp35 := hp4.trans hp5
    obtain ⟨a, sq, ha, hi, hc, hsq⟩ := listAt (hr1.pu hp35) hq
    obtain ⟨a', sq', ha', hi', hc', hsq'⟩ := listAt (hr2.pu hp35) hq
    refine ⟨a, ha, by omega, by omega, sq, by simpa using hc, a', ha', by omega, by omega, sq', by simpa using hc', ?_⟩
    refine Calls.mono (sameTexts_c w5 sq sq' q hsq hsq') ?_
    rintro e w6 ⟨rfl, hp6⟩
    refine ⟨true, rfl, Br.f rfl ?_⟩
    rw [wrap_in (n := (k : Int) + 1) (by omega) (by omega)]
    exact hJ _ _ hlt' ⟨rfl, hp35.trans hp6⟩
  · have P4 := P3.trans hp4
    refine Calls.mono (order_c w4 s l (hl.pu P4) hL) ?_
    rintro e w5 ⟨t3, rfl, hr3, hp5⟩
    refine ⟨t3, _, _, rfl, ?_⟩
    have P5 := P4.trans hp5
    refine Calls.mono (rOrder_c w5 s l (hl.pu P5)) ?_
    rintro e w6 ⟨t4, rfl, hr4, hp6⟩
    refine ⟨t4, _, _, rfl, ?_⟩
    refine Calls.mono (sameTexts_c w6 t3 t4 _ (hr3.pu hp6) hr4) ?_
    rintro e w7 ⟨rfl, hp7⟩
    have P7 := (P5.trans hp6).trans hp7
    refine ⟨true, rfl, Br.f rfl (Br.f (by simp) (Br.f (by simp) ?_))⟩
    refine Br.of (fun _ => kn w7 P7) (fun h => Br.t ?_ (kn w7 P7))
    have h : (orderR l).2.2 = 0 := by simpa using h
    have ho : openE l = 0 := by
      unfold orderR at h
      split at h
      · assumption
      · exact h
    have hb : (orderR l).2.1 = (orderO l).isSome := by
      rw [orderR, if_pos ho]
      cases orderO l <;> rfl
    have hrr : (ringsR l).1 = ringsS l := by rw [ringsR, if_pos ho]
    rw [hrr] at hl1
    rw [hb, order_ring ho, hl1]
    by_cases e : (ringsS l).length = 0
    · simp [e]
    · have : ¬ (((ringsS l).length : Nat) : Int) = 0 := by omega
      simp [e]
end Go.Proofs.Ytcnenlmhbpijlaa
