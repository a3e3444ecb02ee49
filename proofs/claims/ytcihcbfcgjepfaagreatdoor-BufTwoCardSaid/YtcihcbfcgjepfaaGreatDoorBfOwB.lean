import Derived.Test.YtcihcbfcgjepfaaGreatDoorBfOwA
import Derived.Test.YtcihcbfcgjepfaaGreatDoorBfPrA
import Derived.Test.YtcihcbfcgjepfaaGreatDoorShSixteen
import Derived.Test.YtcihcbfcgjepfaaGreatDoorShTen
/- Table: what a value becomes in a field, the reference. No condition. -/
set_option maxRecDepth 100000
set_option linter.unusedVariables false
set_option linter.unusedSimpArgs false
namespace Go.Proofs.YtcihcbfcgjepfaaGreatDoor
open Go.Sh Go.RowKit
theorem bs_eq_iff (l : List UInt8) (s : ByteArray) : bs l = s ↔ l = s.data.toList := by
  constructor
  · intro h; rw [← h]
  · intro h; rw [h]
theorem isMemo_c (n : Int) (w : World) : Calls Tryz.prog 146 #[.int .i64 n] w fun e w' => e = .returned (.bool (memoN n)) /\ Pu w w' := by
  refine F146_calls _ w _ (Br.of (fun d => ?_) (fun d => ?_))
  · exact ⟨by rw [memoN, decide_eq_true (show 0 <= n from dtrue d)]; rfl, Pu.refl w⟩
  · exact ⟨by rw [memoN, decide_eq_false (show ¬ 0 <= n from dfalse d)]; rfl, Pu.refl w⟩
theorem rFits_c (f : Fld) (p : Int) (v : Val) (w : World) : Calls Tryz.prog 96 #[fldA f, .int .i64 p, valA v] w fun e w' => e = .returned (.bool (fitsV f p v)) /\ Pu w w' := by
  refine F96_calls _ _ _ _ _ _ _ _ w _ ?_
  refine alB fun w1 hp1 hb1 => alB fun w2 hp2 hb2 => ?_
  have hp02 := hp1.trans hp2
  have b1 : ∀ {wz}, Pu w2 wz -> wz.heap[w.heap.size]? = some (.cells #[.string f.name, .int .i64 f.kind, .int .i64 f.width, .bool f.null] 38) := fun h => h.blk (hp2.blk hb1)
  have b2 : ∀ {wz}, Pu w2 wz -> wz.heap[w1.heap.size]? = some (.cells #[.int .i64 v.kind, .int .i64 v.n, .string v.s] 28) := fun h => h.blk hb2
  have q0 := b2 (Pu.refl w2)
  refine ⟨_, cl q0 0, _, cl q0 1, _, cl q0 2, (rValid_c v w2).mono ?_⟩
  rintro e w3 ⟨rfl, hp3⟩
  have hp03 := hp02.trans hp3
  have out : ∀ {wz : World} {b : Bool}, Pu w wz -> fitsV f p v = b -> (Ending.returned (Value.bool b) = Ending.returned (Value.bool (fitsV f p v)) /\ Pu w wz) := fun h1 h2 => ⟨by rw [h2], h1⟩
  refine ⟨_, rfl, Br.of (fun d => out hp03 (by unfold fitsV; rw [if_pos (bntrue d)])) (fun d => ?_)⟩
  have hv := bnfalse d
  have hv0 : ¬ validV v ≠ 0 := by omega
  obtain ⟨hvs, hvn, hv4⟩ := valid_ok hv
  refine ⟨_, cl0 (b2 hp3), Br.of (fun d0 => ⟨_, cl (b1 hp3) 3, out hp03 (by unfold fitsV; rw [if_neg hv0, if_pos (btrue d0)])⟩) (fun d0 => ⟨_, cl (b1 hp3) 1, Br.of (fun d1 => ?_) (fun d1 => ?_)⟩)⟩
  · refine ⟨_, cl0 (b2 hp3), Br.of (fun d2 => ⟨_, cl (b2 hp3) 1, (isMemo_c v.n w3).mono ?_⟩) (fun d2 => out hp03 ?_)⟩
    · rintro e w4 ⟨rfl, hp4⟩
      exact ⟨_, rfl, out (hp03.trans hp4) (by unfold fitsV; rw [if_neg hv0, if_neg (bfalse d0), if_pos (btrue d1), decide_eq_true (btrue d2)]; rfl)⟩
    · unfold fitsV; rw [if_neg hv0, if_neg (bfalse d0), if_pos (btrue d1), decide_eq_false (bfalse d2)]; rfl
  have e0 : fitsV f p v = if v.kind ≠ f.kind then false else if f.kind = 2 then decide (((decI v.n).length : Int) <= f.width) else if f.kind = 4 then decide ((v.s.size : Int) <= f.width) && decide (bare v.s.data.toList = v.s.data.toList) && textB v.s.data.toList p else true := by
    unfold fitsV; rw [if_neg hv0, if_neg (bfalse d0), if_neg (bfalse d1)]
  refine ⟨_, cl0 (b2 hp3), _, cl (b1 hp3) 1, Br.of (fun d2 => out hp03 (by rw [e0, if_pos (bntrue d2)])) (fun d2 => ⟨_, cl (b1 hp3) 1, Br.of (fun d3 => ?_) (fun d3 => ⟨_, cl (b1 hp3) 1, Br.of (fun d4 => ?_) (fun d4 => out hp03 ?_)⟩)⟩)⟩
  · have d2 := bnfalse d2
    have d3 := btrue d3
    have hn : In64 v.n := by rw [d2, d3] at hvn; simp [okN] at hvn; exact ⟨by omega, by omega⟩
    refine dwE_intro fun w4 hp4 _ => ⟨fun u => Pu w4 u, Pu.refl _, v.n, fun u hu => cl (b2 ((hp3.trans hp4).trans hu)) 1, f.width, fun u hu => cl (b1 ((hp3.trans hp4).trans hu)) 2, (written_c hn w4).mono ?_⟩
    rintro e w5 ⟨rfl, hp5⟩
    refine ⟨_, rfl, hp5, out ((hp03.trans hp4).trans hp5) ?_⟩
    rw [e0, if_neg (by rw [d2]; simp), if_pos d3, bs_size]
  · have d2 := bnfalse d2
    have d3 := bfalse d3
    have d4 := btrue d4
    have e1 : fitsV f p v = (decide ((v.s.size : Int) <= f.width) && decide (bare v.s.data.toList = v.s.data.toList) && textB v.s.data.toList p) := by
      rw [e0, if_neg (by rw [d2]; simp), if_neg d3, if_pos d4]
    refine dwE_intro fun w4 hp4 _ => ⟨fun u => Pu w4 u, Pu.refl _, v.s, fun u hu => cl (b2 ((hp3.trans hp4).trans hu)) 2, f.width, fun u hu => cl (b1 ((hp3.trans hp4).trans hu)) 2, Br.of (fun d5 => ?_) (fun d5 => out (hp03.trans hp4) ?_)⟩
    · refine ⟨v.s, fun u hu => cl (b2 ((hp3.trans hp4).trans hu)) 2, v.s, fun u hu => cl (b2 ((hp3.trans hp4).trans hu)) 2, (rBare_c v.s (by omega) w4).mono ?_⟩
      rintro e w5 ⟨rfl, hp5⟩
      refine ⟨_, rfl, hp5, ?_⟩
      rw [toList_beq]
      have hbe : (bs (bare v.s.data.toList) = v.s) ↔ bare v.s.data.toList = v.s.data.toList := bs_eq_iff _ _
      refine Br.of (fun d6 => ⟨v.s, fun u hu => cl (b2 ((hp3.trans hp4).trans hu)) 2, (rWritten_c v.s (by omega) p w5).mono ?_⟩) (fun d6 => out ((hp03.trans hp4).trans hp5) ?_)
      · rintro e w6 ⟨rfl, hp6⟩
        refine ⟨_, rfl, out (((hp03.trans hp4).trans hp5).trans hp6) ?_⟩
        rw [e1, decide_eq_true (dtrue d5), decide_eq_true (hbe.1 (dtrue d6))]; rfl
      · rw [e1, decide_eq_false (fun h => dfalse d6 (hbe.2 h))]; simp
    · rw [e1, decide_eq_false (dfalse d5)]; rfl
  · rw [e0, if_neg (by rw [bnfalse d2]; simp), if_neg (bfalse d3), if_neg (bfalse d4)]
theorem rFitted_c (f : Fld) (p : Int) (v : Val) (hfB : fieldB f = true) (hvs : v.s.size <= 140737488355328) (w : World) : Calls Tryz.prog 46 #[fldA f, .int .i64 p, valA v] w fun e w' =>
    e = .returned (.tuple #[valA (fitted f p v).1, .int .i64 (fitted f p v).2]) /\ Pu w w' := by
  refine F46_calls _ _ _ _ _ _ _ _ w _ ?_
  refine alB fun w1 hp1 hb1 => alB fun w2 hp2 hb2 => alB fun w3 hp3 hb3 => ?_
  have z1 : w1.heap.size <= w2.heap.size := hp2.size
  have z0 : w.heap.size <= w1.heap.size := hp1.size
  have hp03 : Pu w w3 := (hp1.trans hp2).trans hp3
  have out : ∀ {wz : World} (v' : Val) (k : Int) {c : Array Value}, Pu w wz -> wz.heap[w2.heap.size]? = some (.cells c 28) -> c.size = 3 -> fitted f p v = (v', k) ->
      stA Tryz.prog 28 (⟨w2.heap.size, 0, none⟩ : Addr) #[.int .i64 v'.kind, .int .i64 v'.n, .string v'.s] wz fun w' => ∃ n0 : Int, w'.cell? ((⟨w2.heap.size, 0, none⟩ : Addr).add 0) = some (.int .i64 n0) /\ ∃ n1 : Int, w'.cell? ((⟨w2.heap.size, 0, none⟩ : Addr).add 1) = some (.int .i64 n1) /\
        ∃ s2 : ByteArray, w'.cell? ((⟨w2.heap.size, 0, none⟩ : Addr).add 2) = some (.string s2) /\ (Ending.returned (.tuple #[.agg #[.int .i64 n0, .int .i64 n1, .string s2], .int .i64 k]) = .returned (.tuple #[valA (fitted f p v).1, .int .i64 (fitted f p v).2]) /\ Pu w w') := fun {wz} v' k {c} h1 h2 h3 h4 =>
    retV (R := fun e w' => e = .returned (.tuple #[valA (fitted f p v).1, .int .i64 (fitted f p v).2]) /\ Pu w w') v' k h2 h3 fun w' hf => ⟨by rw [h4], h1.andNew hf fun i hi => by have hi : i = w2.heap.size := hi; omega⟩
  have b1 : ∀ {wz}, Pu w3 wz -> wz.heap[w.heap.size]? = some (.cells #[.string f.name, .int .i64 f.kind, .int .i64 f.width, .bool f.null] 38) := fun h => h.blk (hp3.blk (hp2.blk hb1))
  have b2 : ∀ {wz}, Pu w3 wz -> wz.heap[w1.heap.size]? = some (.cells #[.int .i64 v.kind, .int .i64 v.n, .string v.s] 28) := fun h => h.blk (hp3.blk hb2)
  have b3 : ∀ {wz}, Pu w3 wz -> wz.heap[w2.heap.size]? = some (.cells #[.int .i64 0, .int .i64 0, .string ⟨#[]⟩] 28) := fun h => h.blk hb3
  have q1 := b1 (Pu.refl w3)
  have q2 := b2 (Pu.refl w3)
  have q3 := b3 (Pu.refl w3)
  refine ⟨_, cl0 q2, Br.of (fun d0 => ⟨_, cl q1 3, Br.of (fun d1 => out noV 7 hp03 q3 rfl ?_) (fun d1 => ⟨_, cl q2 0, _, cl q2 1, _, cl q2 2, out v 0 hp03 q3 rfl ?_⟩)⟩) (fun d0 => ⟨_, cl q1 1, ?_⟩)⟩
  · unfold fitted; rw [if_pos (btrue d0), show f.null = false by simpa using d1]; rfl
  · unfold fitted; rw [if_pos (btrue d0), show f.null = true by simpa using d1]; rfl
  have d0 := bfalse d0
  -- behind the question for the kind
  have rest : v.kind = (emptyV f).kind -> ∀ (m : Int), f.kind = m ->
      Br (m == 4) (∃ s31 : ByteArray, w3.cell? ((⟨w1.heap.size, 0, none⟩ : Addr).add 2) = some (.string s31) /\ ∃ s33 : ByteArray, w3.cell? ((⟨w1.heap.size, 0, none⟩ : Addr).add 2) = some (.string s33) /\ ∃ n36 : Int, w3.cell? ((⟨w.heap.size, 0, none⟩ : Addr).add 2) = some (.int .i64 n36) /\
        ∃ n37 : Int, ∃ w10 : World, (Builtin.min_ #[3, 3] 3 #[.int .i64 ((s33.size : Nat) : Int), .int .i64 n36]).run Tryz.prog w3 = .ok (.int .i64 n37) w10 /\ 0 <= n37 /\ n37.toNat <= s31.size /\ 0 <= n37.toNat /\
        Calls Tryz.prog 99 #[.string (s31.extract 0 n37.toNat)] w10 fun e w11 => ∃ s39 : ByteArray, e = .returned (.string s39) /\ Calls Tryz.prog 100 #[.string s39, .int .i64 p] w11 fun e w12 => ∃ b42 : Bool, e = .returned (.bool b42) /\
        Br (!b42) (stA Tryz.prog 28 (⟨w2.heap.size, 0, none⟩ : Addr) #[.int .i64 0, .int .i64 0, .string (⟨#[]⟩ : ByteArray)] w12 fun w13 => ∃ nR0_0 : Int, w13.cell? ((⟨w2.heap.size, 0, none⟩ : Addr).add 0) = some (.int .i64 nR0_0) /\ ∃ nR0_1 : Int, w13.cell? ((⟨w2.heap.size, 0, none⟩ : Addr).add 1) = some (.int .i64 nR0_1) /\ ∃ sR0_2 : ByteArray, w13.cell? ((⟨w2.heap.size, 0, none⟩ : Addr).add 2) = some (.string sR0_2) /\
            (Ending.returned (.tuple #[.agg #[.int .i64 nR0_0, .int .i64 nR0_1, .string sR0_2], .int .i64 10]) = .returned (.tuple #[valA (fitted f p v).1, .int .i64 (fitted f p v).2]) /\ Pu w w13)) (
          Calls Tryz.prog 101 #[.string s39] w12 fun e w15 => ∃ n46_0 : Int, ∃ n46_1 : Int, ∃ s46_2 : ByteArray, e = .returned (.agg #[.int .i64 n46_0, .int .i64 n46_1, .string s46_2]) /\
          stA Tryz.prog 28 (⟨w2.heap.size, 0, none⟩ : Addr) #[.int .i64 n46_0, .int .i64 n46_1, .string s46_2] w15 fun w16 => ∃ nR0_0 : Int, w16.cell? ((⟨w2.heap.size, 0, none⟩ : Addr).add 0) = some (.int .i64 nR0_0) /\ ∃ nR0_1 : Int, w16.cell? ((⟨w2.heap.size, 0, none⟩ : Addr).add 1) = some (.int .i64 nR0_1) /\ ∃ sR0_2 : ByteArray, w16.cell? ((⟨w2.heap.size, 0, none⟩ : Addr).add 2) = some (.string sR0_2) /\
            (Ending.returned (.tuple #[.agg #[.int .i64 nR0_0, .int .i64 nR0_1, .string sR0_2], .int .i64 0]) = .returned (.tuple #[valA (fitted f p v).1, .int .i64 (fitted f p v).2]) /\ Pu w w16))) (
        ∃ s47_0 : ByteArray, w3.cell? ((⟨w.heap.size, 0, none⟩ : Addr).add 0) = some (.string s47_0) /\ ∃ n47_1 : Int, w3.cell? ((⟨w.heap.size, 0, none⟩ : Addr).add 1) = some (.int .i64 n47_1) /\ ∃ n47_2 : Int, w3.cell? ((⟨w.heap.size, 0, none⟩ : Addr).add 2) = some (.int .i64 n47_2) /\ ∃ b47_3 : Bool, w3.cell? ((⟨w.heap.size, 0, none⟩ : Addr).add 3) = some (.bool b47_3) /\
        ∃ n49_0 : Int, w3.cell? ((⟨w1.heap.size, 0, none⟩ : Addr).add 0) = some (.int .i64 n49_0) /\ ∃ n49_1 : Int, w3.cell? ((⟨w1.heap.size, 0, none⟩ : Addr).add 1) = some (.int .i64 n49_1) /\ ∃ s49_2 : ByteArray, w3.cell? ((⟨w1.heap.size, 0, none⟩ : Addr).add 2) = some (.string s49_2) /\
        Calls Tryz.prog 96 #[.agg #[.string s47_0, .int .i64 n47_1, .int .i64 n47_2, .bool b47_3], .int .i64 p, .agg #[.int .i64 n49_0, .int .i64 n49_1, .string s49_2]] w3 fun e w18 => ∃ b50 : Bool, e = .returned (.bool b50) /\
        Br (!b50) (stA Tryz.prog 28 (⟨w2.heap.size, 0, none⟩ : Addr) #[.int .i64 0, .int .i64 0, .string (⟨#[]⟩ : ByteArray)] w18 fun w13 => ∃ nR0_0 : Int, w13.cell? ((⟨w2.heap.size, 0, none⟩ : Addr).add 0) = some (.int .i64 nR0_0) /\ ∃ nR0_1 : Int, w13.cell? ((⟨w2.heap.size, 0, none⟩ : Addr).add 1) = some (.int .i64 nR0_1) /\ ∃ sR0_2 : ByteArray, w13.cell? ((⟨w2.heap.size, 0, none⟩ : Addr).add 2) = some (.string sR0_2) /\
            (Ending.returned (.tuple #[.agg #[.int .i64 nR0_0, .int .i64 nR0_1, .string sR0_2], .int .i64 10]) = .returned (.tuple #[valA (fitted f p v).1, .int .i64 (fitted f p v).2]) /\ Pu w w13)) (
          ∃ n53_0 : Int, w18.cell? ((⟨w1.heap.size, 0, none⟩ : Addr).add 0) = some (.int .i64 n53_0) /\ ∃ n53_1 : Int, w18.cell? ((⟨w1.heap.size, 0, none⟩ : Addr).add 1) = some (.int .i64 n53_1) /\ ∃ s53_2 : ByteArray, w18.cell? ((⟨w1.heap.size, 0, none⟩ : Addr).add 2) = some (.string s53_2) /\
          stA Tryz.prog 28 (⟨w2.heap.size, 0, none⟩ : Addr) #[.int .i64 n53_0, .int .i64 n53_1, .string s53_2] w18 fun w16 => ∃ nR0_0 : Int, w16.cell? ((⟨w2.heap.size, 0, none⟩ : Addr).add 0) = some (.int .i64 nR0_0) /\ ∃ nR0_1 : Int, w16.cell? ((⟨w2.heap.size, 0, none⟩ : Addr).add 1) = some (.int .i64 nR0_1) /\ ∃ sR0_2 : ByteArray, w16.cell? ((⟨w2.heap.size, 0, none⟩ : Addr).add 2) = some (.string sR0_2) /\
            (Ending.returned (.tuple #[.agg #[.int .i64 nR0_0, .int .i64 nR0_1, .string sR0_2], .int .i64 0]) = .returned (.tuple #[valA (fitted f p v).1, .int .i64 (fitted f p v).2]) /\ Pu w w16))) := by
    rintro hk m rfl
    have hF : fitted f p v = if f.kind = 4 then (if textB (bare (v.s.data.toList.take f.width.toNat)) p then (⟨4, 0, bs (bare (v.s.data.toList.take f.width.toNat))⟩, 0) else (noV, 10)) else if fitsV f p v then (v, 0) else (noV, 10) := by
      unfold fitted; rw [if_neg d0, if_neg (by rw [hk]; simp)]
    refine Br.of (fun d2 => ?_) (fun d2 => ?_)
    · have d2 := btrue d2
      obtain ⟨wl, wh⟩ := fld_text hfB d2
      rw [if_pos d2] at hF
      refine ⟨_, cl q2 2, _, cl q2 2, _, cl q1 2, _, w3, min_run _ _ _ _ _ _, by omega, by omega, by omega, (rBare_c _ (by have := extract_list v.s 0 (min (v.s.size : Int) f.width).toNat; have := size_list (v.s.extract 0 (min (v.s.size : Int) f.width).toNat); simp at *; omega) w3).mono ?_⟩
      rintro e w9 ⟨rfl, hp9⟩
      have et : (v.s.extract 0 (min (v.s.size : Int) f.width).toNat).data.toList = v.s.data.toList.take f.width.toNat := by
        rw [extract_list, List.drop_zero]; exact take_min _ _ _ (by simp) (by omega)
      rw [et]
      have hbl : (bs (bare (v.s.data.toList.take f.width.toNat))).size <= 140737488355328 := by
        rw [bs_size]; have := bare_le (v.s.data.toList.take f.width.toNat); have := List.length_take_le' f.width.toNat v.s.data.toList; rw [size_list] at this; omega
      generalize hg : bare (v.s.data.toList.take f.width.toNat) = B at *
      refine ⟨_, rfl, (rWritten_c _ hbl p w9).mono ?_⟩
      rintro e w10 ⟨rfl, hp10⟩
      rw [bs_list]
      have hp310 := hp9.trans hp10
      refine ⟨_, rfl, Br.of (fun d3 => out noV 10 (hp03.trans hp310) (b3 hp310) rfl ?_) (fun d3 => (rText_c (bs B) w10).mono ?_)⟩
      · rw [hF, show textB B p = false by simpa using d3]; rfl
      · rintro e w11 ⟨rfl, hp11⟩
        refine ⟨_, _, _, rfl, out ⟨4, 0, bs B⟩ 0 (hp03.trans (hp310.trans hp11)) (b3 (hp310.trans hp11)) rfl ?_⟩
        rw [hF, show textB B p = true by simpa using d3]; rfl
    · have d2 := bfalse d2
      rw [if_neg d2] at hF
      refine ⟨_, cl q1 0, _, cl q1 1, _, cl q1 2, _, cl q1 3, _, cl q2 0, _, cl q2 1, _, cl q2 2, (rFits_c f p v w3).mono ?_⟩
      rintro e w9 ⟨rfl, hp9⟩
      refine ⟨_, rfl, Br.of (fun d3 => out noV 10 (hp03.trans hp9) (b3 hp9) rfl ?_) (fun d3 => ⟨_, cl (b2 hp9) 0, _, cl (b2 hp9) 1, _, cl (b2 hp9) 2, out v 0 (hp03.trans hp9) (b3 hp9) rfl ?_⟩)⟩
      · rw [hF, show fitsV f p v = false by simpa using d3]; rfl
      · rw [hF, show fitsV f p v = true by simpa using d3]; rfl
  have six : v.kind ≠ (emptyV f).kind -> fitted f p v = (noV, 6) := fun h => by unfold fitted; rw [if_neg d0, if_pos h]
  refine Br.of (fun d1 => ⟨_, cl0 q2, Br.of (fun d2 => out noV 6 hp03 q3 rfl (six ?_)) (fun d2 => ⟨_, cl q1 1, rest ?_ _ rfl⟩)⟩) (fun d1 => ⟨_, cl0 q2, Br.of (fun d2 => out noV 6 hp03 q3 rfl (six ?_)) (fun d2 => ⟨_, cl q1 1, rest ?_ _ rfl⟩)⟩)
  · unfold emptyV; rw [if_pos (btrue d1)]; exact bntrue d2
  · unfold emptyV; rw [if_pos (btrue d1)]; exact bnfalse d2
  · unfold emptyV; rw [if_neg (bfalse d1)]; exact bntrue d2
  · unfold emptyV; rw [if_neg (bfalse d1)]; exact bnfalse d2
theorem rFit_c (f : Fld) (p : Int) (v : Val) (w : World) : Calls Tryz.prog 13 #[fldA f, .int .i64 p, valA v] w fun e w' =>
    e = .returned (.tuple #[valA (fitS f p v).1, .int .i64 (fitS f p v).2]) /\ Pu w w' := by
  refine F13_calls _ _ _ _ _ _ _ _ w _ ?_
  refine alB fun w1 hp1 hb1 => alB fun w2 hp2 hb2 => alB fun w3 hp3 hb3 => ?_
  have z1 : w1.heap.size <= w2.heap.size := hp2.size
  have z0 : w.heap.size <= w1.heap.size := hp1.size
  have hp03 : Pu w w3 := (hp1.trans hp2).trans hp3
  have out : ∀ {wz : World} (v' : Val) (k : Int) {c : Array Value}, Pu w wz -> wz.heap[w2.heap.size]? = some (.cells c 28) -> c.size = 3 -> fitS f p v = (v', k) ->
      stA Tryz.prog 28 (⟨w2.heap.size, 0, none⟩ : Addr) #[.int .i64 v'.kind, .int .i64 v'.n, .string v'.s] wz fun w' => ∃ n0 : Int, w'.cell? ((⟨w2.heap.size, 0, none⟩ : Addr).add 0) = some (.int .i64 n0) /\ ∃ n1 : Int, w'.cell? ((⟨w2.heap.size, 0, none⟩ : Addr).add 1) = some (.int .i64 n1) /\
        ∃ s2 : ByteArray, w'.cell? ((⟨w2.heap.size, 0, none⟩ : Addr).add 2) = some (.string s2) /\ (Ending.returned (.tuple #[.agg #[.int .i64 n0, .int .i64 n1, .string s2], .int .i64 k]) = .returned (.tuple #[valA (fitS f p v).1, .int .i64 (fitS f p v).2]) /\ Pu w w') := fun {wz} v' k {c} h1 h2 h3 h4 =>
    retV (R := fun e w' => e = .returned (.tuple #[valA (fitS f p v).1, .int .i64 (fitS f p v).2]) /\ Pu w w') v' k h2 h3 fun w' hf => ⟨by rw [h4], h1.andNew hf fun i hi => by have hi : i = w2.heap.size := hi; omega⟩
  have b1 : ∀ {wz}, Pu w3 wz -> wz.heap[w.heap.size]? = some (.cells #[.string f.name, .int .i64 f.kind, .int .i64 f.width, .bool f.null] 38) := fun h => h.blk (hp3.blk (hp2.blk hb1))
  have b2 : ∀ {wz}, Pu w3 wz -> wz.heap[w1.heap.size]? = some (.cells #[.int .i64 v.kind, .int .i64 v.n, .string v.s] 28) := fun h => h.blk (hp3.blk hb2)
  have b3 : ∀ {wz}, Pu w3 wz -> wz.heap[w2.heap.size]? = some (.cells #[.int .i64 0, .int .i64 0, .string ⟨#[]⟩] 28) := fun h => h.blk hb3
  have q0 := b1 (Pu.refl w3)
  refine ⟨_, cl q0 0, _, cl q0 1, _, cl q0 2, _, cl q0 3, (rIsField_c f w3).mono ?_⟩
  rintro e w4 ⟨rfl, hp4⟩
  refine ⟨_, rfl, Br.of (fun d => out noV 1 (hp03.trans hp4) (b3 hp4) rfl (fitS_wrong (by simp at d; simp [d]))) (fun d => (rIsPage_c p w4).mono ?_)⟩
  have hfB : fieldB f = true := by simpa using d
  rintro e w5 ⟨rfl, hp5⟩
  have hp35 := hp4.trans hp5
  refine ⟨_, rfl, Br.of (fun d => out noV 1 (hp03.trans hp35) (b3 hp35) rfl (fitS_wrong (by simp at d; simp [d]))) (fun d => ?_)⟩
  have hpB : pageB p = true := by simpa using d
  have hB : (fieldB f && pageB p) = true := by rw [hfB, hpB]; rfl
  refine ⟨_, cl (b2 hp35) 0, _, cl (b2 hp35) 1, _, cl (b2 hp35) 2, (rValid_c v w5).mono ?_⟩
  rintro e w6 ⟨rfl, hp6⟩
  have hp36 := hp35.trans hp6
  refine ⟨_, rfl, Br.of (fun d => out noV (validV v) (hp03.trans hp36) (b3 hp36) rfl (fitS_invalid hB (bntrue d))) (fun d => ?_)⟩
  have hv := bnfalse d
  refine ⟨_, cl (b1 hp36) 0, _, cl (b1 hp36) 1, _, cl (b1 hp36) 2, _, cl (b1 hp36) 3, _, cl (b2 hp36) 0, _, cl (b2 hp36) 1, _, cl (b2 hp36) 2, (rFitted_c f p v hfB (by have := (valid_ok hv).1; omega) w6).mono ?_⟩
  rintro e w7 ⟨rfl, hp7⟩
  exact ⟨_, _, _, _, rfl, out _ _ (hp03.trans (hp36.trans hp7)) (b3 (hp36.trans hp7)) rfl (fitS_fitted hB hv)⟩
end Go.Proofs.YtcihcbfcgjepfaaGreatDoor

/- Table: rows of fields: which are right, and how wide they are. No condition. -/
set_option maxRecDepth 100000
set_option linter.unusedVariables false
set_option linter.unusedSimpArgs false
namespace Go.Proofs.YtcihcbfcgjepfaaGreatDoor
open Go.Sh Go.RowKit
theorem nodup_snoc {α : Type} [DecidableEq α] {l : List α} {x : α} : (l ++ [x]).Nodup ↔ l.Nodup /\ x ∉ l := by
  rw [List.nodup_append]
  constructor
  · rintro ⟨h1, _, h3⟩; exact ⟨h1, fun hx => h3 x hx x (by simp) rfl⟩
  · rintro ⟨h1, h2⟩; exact ⟨h1, by simp, fun a ha b hb e => by simp at hb; subst hb; subst e; exact h2 ha⟩
theorem nulls_le (l : List Fld) : (nulls l : Int) <= l.length + 1 := by
  unfold nulls
  have := List.length_filter_le (·.null) l
  omega
theorem nullN_take {l : List Fld} {k : Nat} {f : Fld} (h : l[k]? = some f) : ((l.take (k + 1)).filter (·.null)).length = ((l.take k).filter (·.null)).length + (if f.null then 1 else 0) := by
  rw [take_at h, List.filter_append, List.length_append]
  cases hx : f.null <;> simp [hx]
theorem nullN_take' {l : List Fld} {k : Nat} {f : Fld} (h : l[k]? = some f) : ((l.take (k + 1)).filter (·.null)).length = if f.null then ((l.take k).filter (·.null)).length + 1 else ((l.take k).filter (·.null)).length := by
  rw [nullN_take h]; cases f.null <;> rfl
theorem nullBytes_c {w : World} {s : SV} {l : List Fld} (h : RdSl w s l) : Calls Tryz.prog 176 #[.slice s.a s.len s.cap] w fun e w' => e = .returned (.int .i64 (nulls l : Nat)) /\ Pu w w' := by
  refine F176_calls _ w _ ?_
  have hlen := h.len
  have hlim := h.lim
  refine loopUp l.length (fun k t w' => t.2 = (k : Int) /\ t.1 = (((l.take k).filter (·.null)).length : Nat) /\ Pu w w') ⟨rfl, rfl, Pu.refl _⟩ ?_
  rintro k J ⟨t1, t2⟩ w2 hk ⟨ht2, ht1, hp⟩ hJ
  obtain rfl : t2 = (k : Int) := ht2
  obtain rfl : t1 = (((l.take k).filter (·.null)).length : Nat) := ht1
  have hle := List.length_filter_le (·.null) (l.take k)
  have hle2 := List.length_take_le k l
  dsimp only
  refine Br.of (fun d => ?_) (fun d => ?_)
  · have hk2 : k < l.length := by have := dtrue d; omega
    obtain ⟨f, hf⟩ := at_k hk2
    obtain ⟨a, ha, hi, _, _, _, c0, c1, c2, c3⟩ := fldAt (h.pu hp) hf
    refine ⟨a, ha, by omega, by omega, _, c0, _, c1, _, c2, _, c3, boxA rfl s23.symm rfl fun w4 hp4 hs4 hb4 => ⟨_, cl hb4 3, ?_⟩⟩
    have e := nullN_take' hf
    rw [wrap_in (n := (k : Int) + 1) (by omega) (by omega)]
    refine Br.of (fun d1 => hJ _ _ hk2 ⟨by dsimp only; omega, ?_, hp.trans hp4⟩) (fun d1 => hJ _ _ hk2 ⟨by dsimp only; omega, ?_, hp.trans hp4⟩)
    · rw [if_pos d1] at e; dsimp only; rw [e, wrap_in (by omega) (by omega)]; omega
    · rw [if_neg (by rw [d1]; simp)] at e; dsimp only; rw [e]
  · have hk2 : k = l.length := by have := dfalse d; omega
    subst hk2
    rw [List.take_length] at *
    refine ⟨rfl, by omega, ?_, hp⟩
    rw [wrap_in (n := ((l.filter (·.null)).length : Int) + 7) (by omega) (by omega), Int.tdiv_eq_ediv_of_nonneg (by omega), wrap_in (by omega) (by omega)]
    unfold nulls; congr 2
theorem rNulls_c {w : World} {s : SV} {l : List Fld} (h : RdSl w s l) : Calls Tryz.prog 145 #[.slice s.a s.len s.cap] w fun e w' => e = .returned (.int .i64 (nulls l : Nat)) /\ Pu w w' := by
  refine F145_calls _ w _ ?_
  have hlen := h.len
  have hlim := h.lim
  refine loopUp l.length (fun k t w' => t.2 = (k : Int) /\ t.1 = (((l.take k).filter (·.null)).length : Nat) /\ Pu w w') ⟨rfl, rfl, Pu.refl _⟩ ?_
  rintro k J ⟨t1, t2⟩ w2 hk ⟨ht2, ht1, hp⟩ hJ
  obtain rfl : t2 = (k : Int) := ht2
  obtain rfl : t1 = (((l.take k).filter (·.null)).length : Nat) := ht1
  have hle := List.length_filter_le (·.null) (l.take k)
  have hle2 := List.length_take_le k l
  dsimp only
  refine Br.of (fun d => ?_) (fun d => ?_)
  · have hk2 : k < l.length := by have := dtrue d; omega
    obtain ⟨f, hf⟩ := at_k hk2
    obtain ⟨a, ha, hi, _, _, _, c0, c1, c2, c3⟩ := fldAt (h.pu hp) hf
    refine ⟨a, ha, by omega, by omega, _, c3, ?_⟩
    have e := nullN_take' hf
    rw [wrap_in (n := (k : Int) + 1) (by omega) (by omega)]
    refine Br.of (fun d1 => hJ _ _ hk2 ⟨by dsimp only; omega, ?_, hp⟩) (fun d1 => hJ _ _ hk2 ⟨by dsimp only; omega, ?_, hp⟩)
    · rw [if_pos d1] at e; dsimp only; rw [e, wrap_in (by omega) (by omega)]; omega
    · rw [if_neg (by rw [d1]; simp)] at e; dsimp only; rw [e]
  · have hk2 : k = l.length := by have := dfalse d; omega
    subst hk2
    rw [List.take_length] at *
    refine ⟨rfl, by omega, ?_, hp⟩
    rw [wrap_in (n := ((l.filter (·.null)).length : Int) + 7) (by omega) (by omega), Int.tdiv_eq_ediv_of_nonneg (by omega), wrap_in (by omega) (by omega)]
    unfold nulls; congr 2
def WOk (l : List Fld) : Prop := ∀ f ∈ l, 0 <= f.width /\ f.width <= 254
theorem field_width {f : Fld} (h : fieldB f = true) : 1 <= f.width /\ f.width <= 254 := by
  unfold fieldB kindW at h
  simp only [Bool.and_eq_true] at h
  have h := h.2
  split at h
  · simp at h; omega
  · split at h
    · simp at h; omega
    · split at h
      · simp at h; omega
      · split at h
        · simp at h; omega
        · split at h
          · simp at h; omega
          · simp at h
theorem WOk.of {l : List Fld} (h : l.all fieldB = true) : WOk l := fun f hf => by have := field_width (List.all_eq_true.1 h f hf); omega
theorem sum_take {l : List Fld} {k : Nat} {f : Fld} (h : l[k]? = some f) : ((l.take (k + 1)).map (·.width)).sum = ((l.take k).map (·.width)).sum + f.width := by
  rw [take_at h, List.map_append, List.sum_append]; simp
theorem sum_le {l : List Fld} (h : WOk l) : 0 <= (l.map (·.width)).sum /\ (l.map (·.width)).sum <= 254 * l.length := by
  induction l with
  | nil => simp
  | cons f l ih =>
    have h1 := h f (by simp)
    have h2 := ih fun g hg => h g (by simp [hg])
    simp only [List.map_cons, List.sum_cons, List.length_cons]; omega
theorem WOk.take {l : List Fld} (h : WOk l) (k : Nat) : WOk (l.take k) := fun f hf => h f (List.mem_of_mem_take hf)
theorem length_c {w : World} {s : SV} {l : List Fld} (h : RdSl w s l) (hw : WOk l) : Calls Tryz.prog 144 #[.slice s.a s.len s.cap] w fun e w' => e = .returned (.int .i64 (wide l)) /\ Pu w w' := by
  refine F144_calls _ w _ ((nullBytes_c h).mono ?_)
  rintro e w1 ⟨rfl, hp1⟩
  have hlen := h.len
  have hlim := h.lim
  have hn := nulls_le l
  refine ⟨_, rfl, ?_⟩
  rw [wrap_in (by omega) (by omega)]
  refine loopUp l.length (fun k t w' => t.2 = (k : Int) /\ t.1 = 1 + ((nulls l : Nat) : Int) + ((l.take k).map (·.width)).sum /\ Pu w w') ⟨rfl, by simp, hp1⟩ ?_
  rintro k J ⟨t1, t2⟩ w2 hk ⟨ht2, ht1, hp⟩ hJ
  obtain rfl : t2 = (k : Int) := ht2
  obtain rfl : t1 = 1 + ((nulls l : Nat) : Int) + ((l.take k).map (·.width)).sum := ht1
  have hs := sum_le (hw.take k)
  have hle2 := List.length_take_le k l
  dsimp only
  refine Br.of (fun d => ?_) (fun d => ?_)
  · have hk2 : k < l.length := by have := dtrue d; omega
    obtain ⟨f, hf⟩ := at_k hk2
    have hwf := hw f (List.mem_of_getElem? hf)
    obtain ⟨a, ha, hi, _, _, _, c0, c1, c2, c3⟩ := fldAt (h.pu hp) hf
    refine ⟨a, ha, by omega, by omega, _, c0, _, c1, _, c2, _, c3, boxA rfl s23.symm rfl fun w4 hp4 hs4 hb4 => ⟨_, cl hb4 2, ?_⟩⟩
    rw [wrap_in (n := (k : Int) + 1) (by omega) (by omega), wrap_in (by omega) (by omega)]
    refine hJ _ _ hk2 ⟨by dsimp only; omega, ?_, hp.trans hp4⟩
    dsimp only; rw [sum_take hf]; omega
  · have hk2 : k = l.length := by have := dfalse d; omega
    subst hk2
    rw [List.take_length]
    exact ⟨rfl, hp⟩
theorem rWide_c {w : World} {s : SV} {l : List Fld} (h : RdSl w s l) (hw : WOk l) : Calls Tryz.prog 95 #[.slice s.a s.len s.cap] w fun e w' => e = .returned (.int .i64 (wide l)) /\ Pu w w' := by
  refine F95_calls _ w _ ((rNulls_c h).mono ?_)
  rintro e w1 ⟨rfl, hp1⟩
  have hlen := h.len
  have hlim := h.lim
  have hn := nulls_le l
  refine ⟨_, rfl, ?_⟩
  rw [wrap_in (by omega) (by omega)]
  refine loopUp l.length (fun k t w' => t.2 = (k : Int) /\ t.1 = 1 + ((nulls l : Nat) : Int) + ((l.take k).map (·.width)).sum /\ Pu w w') ⟨rfl, by simp, hp1⟩ ?_
  rintro k J ⟨t1, t2⟩ w2 hk ⟨ht2, ht1, hp⟩ hJ
  obtain rfl : t2 = (k : Int) := ht2
  obtain rfl : t1 = 1 + ((nulls l : Nat) : Int) + ((l.take k).map (·.width)).sum := ht1
  have hs := sum_le (hw.take k)
  have hle2 := List.length_take_le k l
  dsimp only
  refine Br.of (fun d => ?_) (fun d => ?_)
  · have hk2 : k < l.length := by have := dtrue d; omega
    obtain ⟨f, hf⟩ := at_k hk2
    have hwf := hw f (List.mem_of_getElem? hf)
    obtain ⟨a, ha, hi, _, _, _, c0, c1, c2, c3⟩ := fldAt (h.pu hp) hf
    refine ⟨a, ha, by omega, by omega, _, c2, ?_⟩
    rw [wrap_in (n := (k : Int) + 1) (by omega) (by omega), wrap_in (by omega) (by omega)]
    refine hJ _ _ hk2 ⟨by dsimp only; omega, ?_, hp⟩
    dsimp only; rw [sum_take hf]; omega
  · have hk2 : k = l.length := by have := dfalse d; omega
    subst hk2
    rw [List.take_length]
    exact ⟨rfl, hp⟩
def TellsF (l : List Fld) (g : Nat) (cap : Array Value) (p : Fld -> Bool) (w0 : World) : Prop := hasBody Tryz.prog g = true /\ ∀ f ∈ l, ∀ w, Pu w0 w -> Calls Tryz.prog g (#[fldA f] ++ cap) w fun e w' => e = .returned (.bool (p f)) /\ Pu w w'
theorem findIdx_take {p : Fld -> Bool} {l : List Fld} {k : Nat} (h : ∀ f ∈ l.take k, p f = false) {f : Fld} (hf : l[k]? = some f) (hp : p f = true) : l.findIdx? p = some k := by
  have hk : k < l.length := (List.getElem?_eq_some_iff.1 hf).1
  rw [List.findIdx?_eq_some_iff_getElem]
  refine ⟨hk, ?_, fun j hj => ?_⟩
  · rw [List.getElem?_eq_getElem hk] at hf; rw [Option.some.inj hf]; exact hp
  · have := h l[j] (by rw [List.mem_take_iff_getElem]; exact ⟨j, by omega, rfl⟩)
    simpa using this
theorem indexFunc_c {w : World} {s : SV} {l : List Fld} (h : RdSl w s l) {g : Nat} {cap : Array Value} {p : Fld -> Bool} (hg : TellsF l g cap p w) : Calls Tryz.prog 104 #[.slice s.a s.len s.cap, .func (.func g) #[] cap] w
    fun e w' => e = .returned (.int .i64 (match l.findIdx? p with | some k => (k : Int) | none => -1)) /\ Pu w w' := by
  refine F104_calls _ _ w _ ?_
  have hlen := h.len
  have hlim := h.lim
  refine loopUp l.length (fun k t w' => t = (k : Int) /\ (∀ f ∈ l.take k, p f = false) /\ Pu w w') ⟨rfl, by simp, Pu.refl _⟩ ?_
  rintro k J t w2 hk ⟨ht, hno, hp⟩ hJ
  obtain rfl : t = (k : Int) := ht
  refine Br.of (fun d => ?_) (fun d => ?_)
  · have hk2 : k < l.length := by have := dtrue d; omega
    obtain ⟨f, hf⟩ := at_k hk2
    obtain ⟨a, ha, hi, _, _, _, c0, c1, c2, c3⟩ := fldAt (h.pu hp) hf
    refine ⟨a, ha, by omega, by omega, _, c0, _, c1, _, c2, _, c3, hg.1, ?_⟩
    have e1 : ((#[] : Array Value).toList ++ (([fldA f] : List Value) ++ cap.toList)).toArray = #[fldA f] ++ cap := by
      apply Array.ext'; simp
    rw [e1]
    refine (hg.2 f (List.mem_of_getElem? hf) w2 hp).mono ?_
    rintro e w3 ⟨rfl, hp3⟩
    refine ⟨_, rfl, Br.of (fun d1 => ⟨by rw [findIdx_take hno hf d1], hp.trans hp3⟩) (fun d1 => ?_)⟩
    rw [wrap_in (by omega) (by omega)]
    refine hJ _ _ hk2 ⟨by omega, fun f' hf' => ?_, hp.trans hp3⟩
    rw [take_at hf, List.mem_append, List.mem_singleton] at hf'
    rcases hf' with hf' | rfl
    · exact hno f' hf'
    · exact d1
  · have hk2 : k = l.length := by have := dfalse d; omega
    subst hk2
    rw [List.take_length] at hno
    have : l.findIdx? p = none := by rw [List.findIdx?_eq_none_iff]; exact fun x hx => by rw [hno x hx]
    exact ⟨by rw [this], hp⟩
theorem containsFunc_c {w : World} {s : SV} {l : List Fld} (h : RdSl w s l) {g : Nat} {cap : Array Value} {p : Fld -> Bool} (hg : TellsF l g cap p w) : Calls Tryz.prog 142 #[.slice s.a s.len s.cap, .func (.func g) #[] cap] w
    fun e w' => e = .returned (.bool (l.any p)) /\ Pu w w' := by
  refine F142_calls _ _ w _ ((indexFunc_c h hg).mono ?_)
  rintro e w2 ⟨rfl, hp⟩
  refine ⟨_, rfl, ?_, hp⟩
  cases hx : l.findIdx? p with
  | none =>
    rw [List.findIdx?_eq_none_iff] at hx
    have : l.any p = false := by rw [List.any_eq_false]; exact fun x hx' => by rw [hx x hx']; simp
    rw [this]; rfl
  | some k =>
    rw [List.findIdx?_eq_some_iff_getElem] at hx
    obtain ⟨h1, h2, _⟩ := hx
    have : l.any p = true := List.any_eq_true.2 ⟨_, List.getElem_mem h1, h2⟩
    rw [this]
    dsimp only
    rw [decide_eq_true (by omega)]
theorem notField_c (f : Fld) (hs : f.name.size <= 140737488355328) (w : World) : Calls Tryz.prog 143 #[fldA f] w fun e w' => e = .returned (.bool (!fieldB f)) /\ Pu w w' := by
  refine F143_calls _ _ _ _ w _ (alB fun w1 hp1 hb1 => ⟨_, cl hb1 0, _, cl hb1 1, _, cl hb1 2, _, cl hb1 3, (isField_c f hs w1).mono ?_⟩)
  rintro e w2 ⟨rfl, hp2⟩
  exact ⟨_, rfl, rfl, hp1.trans hp2⟩
theorem u88 : Tryz.prog.underlying 177 = some (.map 9 4) := by kernel_rfl
abbrev strK (s : ByteArray) : Value := .string s
abbrev boolK (b : Bool) : Value := .bool b
theorem keysS : Keys Tryz.prog 9 strK := keys_str (by kernel_rfl)
theorem z4 (w : World) : (zeroValue 4).run Tryz.prog w = .ok (.bool false) w := Tryz.zeroValue4 w
def seenL (l : List Fld) : List (ByteArray × Bool) := l.map fun f => (f.name, true)
theorem seen_fst (l : List Fld) : (seenL l).map Prod.fst = l.map (·.name) := by simp [seenL]
noncomputable instance memDec (x : ByteArray) (l : List ByteArray) : Decidable (x ∈ l) := Classical.propDecidable _
theorem seen_look (l : List Fld) (x : ByteArray) : (AL.get (seenL l) x).elim (.bool false) boolK = .bool (decide (x ∈ l.map (·.name))) := by
  by_cases h : x ∈ l.map (·.name)
  · rw [decide_eq_true h]
    cases hg : AL.get (seenL l) x with
    | none => rw [AL.get_none, seen_fst] at hg; exact absurd h hg
    | some v =>
      have := AL.get_mem hg
      simp only [seenL, List.mem_map] at this
      obtain ⟨f, _, he⟩ := this
      cases he; rfl
  · rw [decide_eq_false h, (AL.get_none).2 (by rw [seen_fst]; exact h)]; rfl
theorem validF_empty : validF [] = 1 := by unfold validF; rw [if_pos (.inl rfl)]
theorem validF_bad {l : List Fld} (h : l.all fieldB = false) : validF l = 1 := by unfold validF; rw [if_pos (.inr h)]
theorem validF_dup {l : List Fld} (h0 : l ≠ []) (h : l.all fieldB = true) (h2 : ¬ (l.map (·.name)).Nodup) : validF l = 5 := by unfold validF; rw [if_neg (by simp [h0, h]), if_pos h2]
theorem validF_end {l : List Fld} (h0 : l ≠ []) (h : l.all fieldB = true) (h2 : (l.map (·.name)).Nodup) : validF l = if 16 < l.length ∨ 2000 < wide l then 3 else 0 := by unfold validF; rw [if_neg (by simp [h0, h]), if_neg (by simp [h2])]
theorem names_take {l : List Fld} {k : Nat} {f : Fld} (h : l[k]? = some f) : (l.take (k + 1)).map (·.name) = (l.take k).map (·.name) ++ [f.name] := by
  rw [take_at h, List.map_append]; rfl
theorem nodup_of_take {l : List Fld} {k : Nat} (h : ¬ ((l.take k).map (·.name)).Nodup) : ¬ (l.map (·.name)).Nodup := fun hn => h (by
  rw [List.map_take]; exact hn.sublist (List.take_sublist _ _))
theorem validFields_c {w : World} {s : SV} {l : List Fld} (h : RdSl w s l) (hl : Lim.ok l) : Calls Tryz.prog 93 #[.slice s.a s.len s.cap] w fun e w' => e = .returned (.int .i64 (validF l)) /\ Pu w w' := by
  refine F93_calls _ w _ ?_
  have hlen := h.len
  have hlim := h.lim
  have nm : ∀ f ∈ l, f.name.size <= 140737488355328 := fun f hf => hl f hf
  refine Br.of (fun d => ?_) (fun d => ?_)
  · have : l = [] := List.length_eq_zero_iff.1 (by have := btrue d; omega)
    subst this; exact ⟨by rw [validF_empty], Pu.refl _⟩
  have h0 : l ≠ [] := fun e => by subst e; exact bfalse d (by rw [hlen]; rfl)
  have tells : TellsF l 143 #[] (fun f => !fieldB f) w := ⟨by kernel_rfl, fun f hf w2 _ => notField_c f (nm f hf) w2⟩
  refine (containsFunc_c h tells).mono ?_
  rintro e w1 ⟨rfl, hp1⟩
  have hany : l.any (fun f => !fieldB f) = !l.all fieldB := by rw [List.all_eq_not_any_not]; simp
  refine ⟨_, rfl, ?_⟩
  rw [hany]
  refine Br.of (fun d1 => ⟨by rw [validF_bad (by simpa using d1)], hp1⟩) (fun d1 => ?_)
  have hall : l.all fieldB = true := by simpa using d1
  refine alE_intro fun w2 hw2 => ?_
  have hp2 : Pu w1 w2 := by rw [hw2]; exact Pu.alloc w1 _
  have hm2 : MapAt w2 strK boolK w1.heap.size ([] : List (ByteArray × Bool)) := by rw [hw2]; exact MapAt.new w1 _ _
  have z1 := hp1.size
  refine loopUp l.length (fun k t w' => t = (k : Int) /\ MapAt w' strK boolK w1.heap.size (seenL (l.take k)) /\ ((l.take k).map (·.name)).Nodup /\ Pu w w') ⟨rfl, hm2, by simp, hp1.trans hp2⟩ ?_
  rintro k J t w3 hk ⟨ht, hm, hnd, hp⟩ hJ
  obtain rfl : t = (k : Int) := ht
  refine Br.of (fun d2 => ?_) (fun d2 => ?_)
  · have hk2 : k < l.length := by have := dtrue d2; omega
    obtain ⟨f, hf⟩ := at_k hk2
    obtain ⟨a, ha, hi, _, _, _, c0, c1, c2, c3⟩ := fldAt (h.pu hp) hf
    refine ⟨a, ha, by omega, by omega, _, c0, _, c1, _, c2, _, c3, boxA rfl s23.symm rfl fun w4 hp4 hs4 hb4 => ⟨_, cl0 hb4, decide (f.name ∈ (l.take k).map (·.name)), w4, ?_, ?_⟩⟩
    · have := (hm.pu hp4).look keysS u88 (z4 w4) f.name false
      rw [seen_look] at this; exact this
    refine Br.of (fun d3 => ⟨?_, hp.trans hp4⟩) (fun d3 => ⟨_, cl0 hb4, ?_⟩)
    · rw [validF_dup h0 hall (nodup_of_take (k := k + 1) (by rw [names_take hf, nodup_snoc]; exact fun h => h.2 (dtrue d3)))]
    · obtain ⟨w5, e5, h5, f5, _⟩ := (hm.pu hp4).upd keysS u88 f.name true
      refine ⟨w5, e5, ?_⟩
      rw [wrap_in (by omega) (by omega)]
      have hput : AL.put (seenL (l.take k)) f.name true = seenL (l.take (k + 1)) := by
        rw [AL.put_new ((AL.get_none).2 (by rw [seen_fst]; exact dfalse d3))]
        simp only [seenL]
        rw [take_at hf, List.map_append]; rfl
      rw [hput] at h5
      refine hJ _ _ hk2 ⟨by omega, h5, by rw [names_take hf, nodup_snoc]; exact ⟨hnd, dfalse d3⟩, (hp.trans hp4).andNew f5 fun i hi => by have hi : i = w1.heap.size := hi; omega⟩
  · have hk2 : k = l.length := by have := dfalse d2; omega
    subst hk2
    rw [List.take_length] at hnd
    have he := validF_end h0 hall hnd
    refine Br.of (fun d3 => ⟨by rw [he, if_pos (.inl (by have := dtrue d3; omega))], hp⟩) (fun d3 => (length_c (h.pu hp) (WOk.of hall)).mono ?_)
    rintro e w4 ⟨rfl, hp4⟩
    refine ⟨_, rfl, Br.of (fun d4 => ⟨by rw [he, if_pos (.inr (dtrue d4))], hp.trans hp4⟩) (fun d4 => ⟨by rw [he, if_neg (by have := dfalse d4; have := dfalse d3; omega)], hp.trans hp4⟩)⟩
theorem rValidFields_c {w : World} {s : SV} {l : List Fld} (h : RdSl w s l) : Calls Tryz.prog 42 #[.slice s.a s.len s.cap] w fun e w' => e = .returned (.int .i64 (validF l)) /\ Pu w w' := by
  refine F42_calls _ w _ ?_
  have hlen := h.len
  have hlim := h.lim
  refine Br.of (fun d => ?_) (fun d => ?_)
  · have : l = [] := List.length_eq_zero_iff.1 (by have := btrue d; omega)
    subst this; exact ⟨by rw [validF_empty], Pu.refl _⟩
  have h0 : l ≠ [] := fun e => by subst e; exact bfalse d (by rw [hlen]; rfl)
  refine loopUp l.length (fun k t w' => t = (k : Int) /\ (l.take k).all fieldB = true /\ Pu w w') ⟨rfl, rfl, Pu.refl _⟩ ?_
  rintro k J t w2 hk ⟨ht, hal, hp⟩ hJ
  obtain rfl : t = (k : Int) := ht
  refine Br.of (fun d1 => ?_) (fun d1 => ?_)
  · have hk2 : k < l.length := by have := dtrue d1; omega
    obtain ⟨f, hf⟩ := at_k hk2
    obtain ⟨a, ha, hi, _, _, _, c0, c1, c2, c3⟩ := fldAt (h.pu hp) hf
    refine ⟨a, ha, by omega, by omega, _, c0, _, c1, _, c2, _, c3, (rIsField_c f w2).mono ?_⟩
    rintro e w3 ⟨rfl, hp3⟩
    refine ⟨_, rfl, Br.of (fun d2 => ⟨?_, hp.trans hp3⟩) (fun d2 => ?_)⟩
    · rw [validF_bad (by rw [List.all_eq_false]; exact ⟨f, List.mem_of_getElem? hf, by simpa using d2⟩)]
    · rw [wrap_in (by omega) (by omega)]
      exact hJ _ _ hk2 ⟨by omega, by rw [all_take _ hf, hal, show fieldB f = true by simpa using d2]; rfl, hp.trans hp3⟩
  have hk2 : k = l.length := by have := dfalse d1; omega
  subst hk2
  rw [List.take_length] at hal
  clear hJ J d1
  refine loopUp l.length (fun k t w' => t = (k : Int) /\ ((l.take k).map (·.name)).Nodup /\ Pu w w') ⟨rfl, by simp, hp⟩ ?_
  rintro k J t w3 hk ⟨ht, hnd, hp⟩ hJ
  obtain rfl : t = (k : Int) := ht
  refine Br.of (fun d1 => ?_) (fun d1 => ?_)
  · have hk2 : k < l.length := by have := dtrue d1; omega
    obtain ⟨f, hf⟩ := at_k hk2
    refine loopUp k (fun j t w' => t = (j : Int) /\ f.name ∉ (l.take j).map (·.name) /\ Pu w w') ⟨rfl, by simp, hp⟩ ?_
    rintro j J2 t w4 hj ⟨ht, hno, hp4⟩ hJ2
    obtain rfl : t = (j : Int) := ht
    refine Br.of (fun d2 => ?_) (fun d2 => ?_)
    · have hj2 : j < k := by have := dtrue d2; omega
      obtain ⟨g, hg⟩ := at_k (show j < l.length by omega)
      refine dwE_intro fun w5 hp5 _ => ?_
      obtain ⟨a, ha, hi, _, _, c, c0, c1, c2, c3⟩ := fldAt (h.pu (hp4.trans hp5)) hf
      obtain ⟨a', ha', hi', _, _, c', c0', c1', c2', c3'⟩ := fldAt (h.pu (hp4.trans hp5)) hg
      refine ⟨a, ha, by omega, by omega, _, c, a', ha', by omega, by omega, _, c', ?_⟩
      rw [toList_beq]
      refine Br.of (fun d3 => ⟨?_, hp4.trans hp5⟩) (fun d3 => ?_)
      · rw [validF_dup h0 hal (nodup_of_take (k := k + 1) (by
          rw [names_take hf, nodup_snoc]
          refine fun h => h.2 ?_
          rw [dtrue d3]
          exact List.mem_map.2 ⟨g, by rw [List.mem_take_iff_getElem]; exact ⟨j, by omega, by rw [List.getElem?_eq_getElem (by omega)] at hg; exact Option.some.inj hg⟩, rfl⟩))]
      · rw [wrap_in (by omega) (by omega)]
        refine hJ2 _ _ hj2 ⟨by omega, ?_, hp4.trans hp5⟩
        rw [names_take hg, List.mem_append, List.mem_singleton]
        exact fun h => h.elim hno (dfalse d3)
    · have hj2 : j = k := by have := dfalse d2; omega
      subst hj2
      show J (IntKind.i64.wrap ((j : Int) + 1)) w4
      rw [wrap_in (by omega) (by omega)]
      exact hJ _ _ hk2 ⟨by omega, by rw [names_take hf, nodup_snoc]; exact ⟨hnd, hno⟩, hp4⟩
  · have hk2 : k = l.length := by have := dfalse d1; omega
    subst hk2
    rw [List.take_length] at hnd
    have he := validF_end h0 hal hnd
    refine Br.of (fun d3 => ⟨by rw [he, if_pos (.inl (by have := dtrue d3; omega))], hp⟩) (fun d3 => (rWide_c (h.pu hp) (WOk.of hal)).mono ?_)
    rintro e w4 ⟨rfl, hp4⟩
    refine ⟨_, rfl, Br.of (fun d4 => ⟨by rw [he, if_pos (.inr (dtrue d4))], hp.trans hp4⟩) (fun d4 => ⟨by rw [he, if_neg (by have := dfalse d4; have := dfalse d3; omega)], hp.trans hp4⟩)⟩
end Go.Proofs.YtcihcbfcgjepfaaGreatDoor

/- Table: which tables are right. No condition. -/
set_option maxRecDepth 100000
set_option linter.unusedVariables false
set_option linter.unusedSimpArgs false
namespace Go.Proofs.YtcihcbfcgjepfaaGreatDoor
open Go.Sh Go.RowKit
theorem struct25 : structB Tryz.prog 28 [some .i64, some .i64, none] = true := by kernel_rfl
theorem guard25 : Tryz.prog.eqGuardType Tryz.prog.depth 28 = false := by kernel_rfl
theorem valV_inj {a b : Val} (h : valV a = valV b) : a = b := by
  obtain ⟨a1, a2, a3⟩ := a; obtain ⟨b1, b2, b3⟩ := b
  simp [valV] at h; simp [h]
theorem eqVal (x y : Operand) (a b : Val) (w : World) : (eqS .eql 28 x y (valA a) (valA b)).run Tryz.prog w = .ok (.bool (decide (a = b))) w := by
  refine eqS_row (ks := [some .i64, some .i64, none]) (xs := valV a) (ys := valV b) struct25 guard25 rfl rfl ?_ w
  rw [decide_eq_true_iff]
  exact ⟨fun h => by rw [h], valV_inj⟩
theorem bare_fix {l : List UInt8} {w : Nat} (h : bare (l.take w) = l) : l.length <= w /\ bare l = l := by
  have h1 := bare_le (l.take w)
  rw [h] at h1
  have h2 := List.length_take_le w l
  have h3 : l.length <= w := by omega
  rw [List.take_of_length_le h3] at h
  exact ⟨h3, h⟩
theorem fitted_holds {f : Fld} {p : Int} {v : Val} (hf : fieldB f = true) (hv : validV v = 0) (hk : v.kind ≠ 0) : (decide ((fitted f p v).2 = 0) && decide ((fitted f p v).1 = v)) = fitsV f p v := by
  have hv0 : ¬ validV v ≠ 0 := by omega
  obtain ⟨hvs, hvn, hv4⟩ := valid_ok hv
  unfold fitted
  rw [if_neg hk]
  by_cases h1 : v.kind ≠ (emptyV f).kind
  · rw [if_pos h1]
    have : fitsV f p v = false := by
      unfold fitsV; rw [if_neg hv0, if_neg hk]
      by_cases h5 : f.kind = 5
      · have : v.kind ≠ 2 := by unfold emptyV at h1; rw [if_pos h5] at h1; exact h1
        rw [if_pos h5, decide_eq_false this]; rfl
      · have : v.kind ≠ f.kind := by unfold emptyV at h1; rw [if_neg h5] at h1; exact h1
        rw [if_neg h5, if_pos this]
    rw [this]; simp
  rw [if_neg h1]
  by_cases h4 : f.kind = 4
  · rw [if_pos h4]
    have hkv : v.kind = 4 := by have : v.kind = (emptyV f).kind := by simpa using h1
                                rw [this]; unfold emptyV; rw [if_neg (by omega)]; exact h4
    have hn0 : v.n = 0 := by rw [hkv] at hvn; simpa [okN] using hvn
    have hfit : fitsV f p v = (decide ((v.s.size : Int) <= f.width) && decide (bare v.s.data.toList = v.s.data.toList) && textB v.s.data.toList p) := by
      unfold fitsV; rw [if_neg hv0, if_neg hk, if_neg (by omega), if_neg (by rw [hkv, h4]; simp), if_neg (by omega), if_pos h4]
    obtain ⟨wl, wh⟩ := fld_text hf h4
    have key : (bare (v.s.data.toList.take f.width.toNat) = v.s.data.toList) ↔ ((v.s.size : Int) <= f.width /\ bare v.s.data.toList = v.s.data.toList) := by
      constructor
      · intro h; have h2 := bare_fix h; rw [size_list] at h2; exact ⟨by omega, h2.2⟩
      · rintro ⟨h2, h3⟩; rw [List.take_of_length_le (by rw [size_list]; omega)]; exact h3
    have eqv : (⟨4, 0, bs (bare (v.s.data.toList.take f.width.toNat))⟩ : Val) = v ↔ bare (v.s.data.toList.take f.width.toNat) = v.s.data.toList := by
      rw [← bs_eq_iff]
      obtain ⟨k, n, s⟩ := v
      simp only at hkv hn0
      subst hkv hn0
      simp
    have key2 : (decide ((v.s.size : Int) <= f.width) && decide (bare v.s.data.toList = v.s.data.toList)) = decide (bare (v.s.data.toList.take f.width.toNat) = v.s.data.toList) := by rw [← Bool.decide_and]; exact dec_eq key.symm
    rw [hfit, key2]
    by_cases hb : bare (v.s.data.toList.take f.width.toNat) = v.s.data.toList
    · rw [decide_eq_true hb, hb]
      cases ht : textB v.s.data.toList p
      · simp
      · rw [if_pos rfl]
        have h9 := eqv.2 hb
        rw [hb] at h9
        simp [h9]
    · rw [decide_eq_false hb]
      cases ht : textB (bare (v.s.data.toList.take f.width.toNat)) p
      · simp
      · rw [if_pos rfl]
        have h9 : ¬ (⟨4, 0, bs (bare (v.s.data.toList.take f.width.toNat))⟩ : Val) = v := fun h => hb (eqv.1 h)
        simp [h9]
  · rw [if_neg h4]
    cases hfit : fitsV f p v
    · simp
    · simp
theorem holds_c (f : Fld) (p : Int) (v : Val) (hs : f.name.size <= 140737488355328) (hf : fieldB f = true) (hpg : pageB p = true) (w : World) : Calls Tryz.prog 94 #[fldA f, .int .i64 p, valA v] w fun e w' => e = .returned (.bool (fitsV f p v)) /\ Pu w w' := by
  refine F94_calls _ _ _ _ _ _ _ _ w _ ?_
  refine alB fun w1 hp1 hb1 => alB fun w2 hp2 hb2 => ?_
  have hp02 := hp1.trans hp2
  have b1 : ∀ {wz}, Pu w2 wz -> wz.heap[w.heap.size]? = some (.cells #[.string f.name, .int .i64 f.kind, .int .i64 f.width, .bool f.null] 38) := fun h => h.blk (hp2.blk hb1)
  have b2 : ∀ {wz}, Pu w2 wz -> wz.heap[w1.heap.size]? = some (.cells #[.int .i64 v.kind, .int .i64 v.n, .string v.s] 28) := fun h => h.blk hb2
  have q1 := b1 (Pu.refl w2)
  have q2 := b2 (Pu.refl w2)
  have out : ∀ {wz : World} {b : Bool}, Pu w wz -> fitsV f p v = b -> (Ending.returned (Value.bool b) = Ending.returned (Value.bool (fitsV f p v)) /\ Pu w wz) := fun h1 h2 => ⟨by rw [h2], h1⟩
  have bad : validV v ≠ 0 -> fitsV f p v = false := fun h => by unfold fitsV; rw [if_pos h]
  refine ⟨_, cl0 q2, Br.of (fun d => ⟨_, cl q1 3, ?_⟩) (fun d => ⟨_, cl q2 0, _, cl q2 1, _, cl q2 2, (valid_c v w2).mono ?_⟩)⟩
  · have d := btrue d
    have key : (f.null && decide (v = noV)) = fitsV f p v := by
      by_cases h : validV v ≠ 0
      · rw [bad h]
        have : ¬ v = noV := fun e => h (by rw [e]; rfl)
        rw [decide_eq_false this]; simp
      · have h : validV v = 0 := by simpa using h
        obtain ⟨_, h2, h3⟩ := valid_ok h
        have hn : v.n = 0 := by rw [d] at h2; simpa [okN] using h2
        have hz : v.s.size = 0 := h3.resolve_left (by omega)
        have : v = noV := by
          obtain ⟨k, n, s⟩ := v
          simp only at d hn hz
          subst d hn
          have : s = ⟨#[]⟩ := bytes_ext (by have : s.data.toList.length = 0 := by rw [size_list]; exact hz
                                            rw [List.length_eq_zero_iff] at this; rw [this])
          subst this; rfl
        rw [decide_eq_true this]
        unfold fitsV; rw [if_neg (by omega), if_pos d]; simp
    refine Br.of (fun d1 => ⟨_, cl q2 0, _, cl q2 1, _, cl q2 2, _, w2, eqVal _ _ v noV w2, out hp02 ?_⟩) (fun d1 => out hp02 ?_)
    · rw [← key, d1]; rfl
    · rw [← key, d1]; rfl
  rintro e w3 ⟨rfl, hp3⟩
  have hp03 := hp02.trans hp3
  refine ⟨_, rfl, Br.of (fun d1 => out hp03 (bad (bntrue d1))) (fun d1 => ⟨_, cl (b1 hp3) 0, _, cl (b1 hp3) 1, _, cl (b1 hp3) 2, _, cl (b1 hp3) 3, _, cl (b2 hp3) 0, _, cl (b2 hp3) 1, _, cl (b2 hp3) 2, (fit_c f p v hs w3).mono ?_⟩)⟩
  have hv := bnfalse d1
  have hF := fitS_fitted (f := f) (p := p) (v := v) (by rw [hf, hpg]; rfl) hv
  have key := fitted_holds (f := f) (p := p) hf hv (bfalse d)
  rintro e w4 ⟨rfl, hp4⟩
  rw [hF]
  refine ⟨_, _, _, _, rfl, boxA rfl s25.symm rfl fun w5 hp5 hs5 hb5 => ?_⟩
  have hp35 := (hp3.trans hp4).trans hp5
  have hp05 := hp02.trans hp35
  refine Br.of (fun d2 => ⟨_, cl hb5 0, _, cl hb5 1, _, cl hb5 2, _, cl (b2 hp35) 0, _, cl (b2 hp35) 1, _, cl (b2 hp35) 2, _, w5, eqVal _ _ (fitted f p v).1 v w5, out hp05 ?_⟩) (fun d2 => out hp05 ?_)
  · rw [← key, decide_eq_true (btrue d2)]; rfl
  · rw [← key, decide_eq_false (bfalse d2)]; rfl
theorem zip_at {l : List Fld} {vs : List Val} {i : Nat} {f : Fld} {v : Val} (h : l[i]? = some f) (h2 : vs[i]? = some v) : (l.zip vs)[i]? = some (f, v) := by
  rw [List.getElem?_zip_eq_some]; exact ⟨h, h2⟩
def fitAll (l : List Fld) (p : Int) (vs : List Val) : Bool := (l.zip vs).all (fun x => fitsV x.1 p x.2)
theorem validR_len {l : List Fld} {p : Int} {r : Rec} (h : r.v.length ≠ l.length) : validR l p r = 10 := by unfold validR; rw [if_pos h]
theorem validR_fit {l : List Fld} {p : Int} {r : Rec} (h : r.v.length = l.length) : validR l p r = if fitAll l p r.v then 0 else 1 := by unfold validR; rw [if_neg (by simp [h])]; rfl
theorem rValidRec_c {w : World} {s t : SV} {l : List Fld} {r : Rec} (p : Int) (h : RdSl w s l) (hr : RdSl w t r.v) : Calls Tryz.prog 43 #[.slice s.a s.len s.cap, .int .i64 p, .agg #[.bool r.gone, .slice t.a t.len t.cap]] w fun e w' => e = .returned (.int .i64 (validR l p r)) /\ Pu w w' := by
  refine F43_calls _ _ _ _ w _ ?_
  refine alB fun w1 hp1 hb1 => ⟨t, cl hb1 1, ?_⟩
  have h1 := h.len
  have h2 := hr.len
  have h3 := h.lim
  refine Br.of (fun d => ⟨by rw [validR_len (by have := bntrue d; omega)], hp1⟩) (fun d => ?_)
  have hl : r.v.length = l.length := by have := bnfalse d; omega
  refine loopUp l.length (fun k u w' => u = (k : Int) /\ ((l.zip r.v).take k).all (fun x => fitsV x.1 p x.2) = true /\ Pu w1 w') ⟨rfl, rfl, Pu.refl _⟩ ?_
  rintro k J u w2 hk ⟨hu, hal, hp2⟩ hJ
  obtain rfl : u = (k : Int) := hu
  refine Br.of (fun d1 => ?_) (fun d1 => ?_)
  · have hk2 : k < l.length := by have := dtrue d1; omega
    obtain ⟨f, hf⟩ := at_k hk2
    obtain ⟨v, hv⟩ := at_k (show k < r.v.length by omega)
    refine dwE_intro fun w3 hp3 _ => ?_
    have hp13 := hp2.trans hp3
    obtain ⟨a, ha, hi, _, _, c, c0, c1, c2, c3⟩ := fldAt ((h.pu hp1).pu hp13) hf
    obtain ⟨b, hb, hbi, _, _, e0, e1, e2⟩ := valAt ((hr.pu hp1).pu hp13) hv
    refine ⟨a, ha, by omega, by omega, _, c0, _, c1, _, c2, _, c3, t, cl (hp13.blk hb1) 1, b, hb, by omega, by omega, _, e0, _, e1, _, e2, (rFits_c f p v w3).mono ?_⟩
    rintro e w4 ⟨rfl, hp4⟩
    have hz := zip_at hf hv
    refine ⟨_, rfl, Br.of (fun d2 => ⟨?_, hp1.trans (hp13.trans hp4)⟩) (fun d2 => ?_)⟩
    · have : fitAll l p r.v = false := by unfold fitAll; rw [List.all_eq_false]; exact ⟨_, List.mem_of_getElem? hz, by simpa using d2⟩
      rw [validR_fit hl, this]; rfl
    · rw [wrap_in (by omega) (by omega)]
      exact hJ _ _ hk2 ⟨by omega, by rw [all_take _ hz, hal, show fitsV f p v = true by simpa using d2]; rfl, hp13.trans hp4⟩
  · have hk2 : k = l.length := by have := dfalse d1; omega
    have : fitAll l p r.v = true := by unfold fitAll; rw [← hal, List.take_of_length_le (by rw [List.length_zip]; omega)]
    exact ⟨by rw [validR_fit hl, this]; rfl, hp1.trans hp2⟩
theorem firstBad_at {l : List Fld} {p : Int} : ∀ {rs : List Rec} {k : Nat} {r : Rec}, (∀ x ∈ rs.take k, validR l p x = 0) -> rs[k]? = some r -> validR l p r ≠ 0 -> firstBad l p rs = validR l p r
  | [], k, r, _, h, _ => by simp at h
  | x :: rs, 0, r, _, h, h2 => by simp at h; subst h; unfold firstBad; rw [if_pos h2]
  | x :: rs, k + 1, r, h0, h, h2 => by
    unfold firstBad
    rw [if_neg (by rw [h0 x (by simp)]; simp)]
    exact firstBad_at (k := k) (fun y hy => h0 y (by simp [hy])) (by simpa using h) h2
theorem firstBad_none {l : List Fld} {p : Int} : ∀ {rs : List Rec}, (∀ x ∈ rs, validR l p x = 0) -> firstBad l p rs = 0
  | [], _ => rfl
  | x :: rs, h => by unfold firstBad; rw [if_neg (by rw [h x (by simp)]; simp)]; exact firstBad_none fun y hy => h y (by simp [hy])
theorem validT_page {t : Tbl} (h : pageB t.page = false) : validT t = 1 := by unfold validT; rw [h]; rfl
theorem validT_fields {t : Tbl} (h : pageB t.page = true) (h2 : validF t.fields ≠ 0) : validT t = validF t.fields := by unfold validT; rw [h, if_pos rfl, if_pos h2]
theorem validT_many {t : Tbl} (h : pageB t.page = true) (h2 : validF t.fields = 0) (h3 : 300 < t.recs.length) : validT t = 3 := by unfold validT; rw [h, if_pos rfl, if_neg (by omega), if_pos h3]
theorem validT_recs {t : Tbl} (h : pageB t.page = true) (h2 : validF t.fields = 0) (h3 : ¬ 300 < t.recs.length) : validT t = firstBad t.fields t.page t.recs := by unfold validT; rw [h, if_pos rfl, if_neg (by omega), if_neg h3]
theorem validF_ok {l : List Fld} (h : validF l = 0) : l ≠ [] /\ l.all fieldB = true /\ (l.map (·.name)).Nodup /\ l.length <= 16 /\ wide l <= 2000 := by
  unfold validF at h
  split at h
  · omega
  · rename_i h1
    split at h
    · omega
    · rename_i h2
      split at h
      · omega
      · rename_i h3
        simp only [not_or] at h1 h3
        exact ⟨h1.1, by simpa using h1.2, by simpa using h2, by omega, by omega⟩
abbrev tblA (t : Tbl) (f r : SV) : Value := .agg #[.int .i64 t.page, .slice f.a f.len f.cap, .slice r.a r.len r.cap]
theorem rValidTbl_c {w : World} {t : Tbl} {f r : SV} (h : RdTbl w t f r) : Calls Tryz.prog 12 #[tblA t f r] w fun e w' => e = .returned (.int .i64 (validT t)) /\ Pu w w' := by
  refine F12_calls _ _ _ w _ ?_
  refine alB fun w1 hp1 hb1 => ⟨_, cl0 hb1, (rIsPage_c t.page w1).mono ?_⟩
  rintro e w2 ⟨rfl, hp2⟩
  have h1 := h.recs.len
  have h3 := h.recs.lim
  refine ⟨_, rfl, Br.of (fun d => ⟨by rw [validT_page (by simpa using d)], hp1.trans hp2⟩) (fun d => ⟨_, cl (hp2.blk hb1) 1, (rValidFields_c (h.fields.pu (hp1.trans hp2))).mono ?_⟩)⟩
  have hpg : pageB t.page = true := by simpa using d
  rintro e w3 ⟨rfl, hp3⟩
  have hp13 := hp2.trans hp3
  refine ⟨_, rfl, Br.of (fun d1 => ⟨by rw [validT_fields hpg (bntrue d1)], hp1.trans hp13⟩) (fun d1 => ⟨_, cl (hp13.blk hb1) 2, Br.of (fun d2 => ⟨by rw [validT_many hpg (bnfalse d1) (by have := dtrue d2; omega)], hp1.trans hp13⟩) (fun d2 => ?_)⟩)⟩
  have hvf := bnfalse d1
  have e0 := validT_recs hpg hvf (by have := dfalse d2; omega)
  refine loopUp t.recs.length (fun k u w' => u = (k : Int) /\ (∀ x ∈ t.recs.take k, validR t.fields t.page x = 0) /\ Pu w1 w') ⟨rfl, by simp, hp13⟩ ?_
  rintro k J u w4 hk ⟨hu, hal, hp4⟩ hJ
  obtain rfl : u = (k : Int) := hu
  refine ⟨_, cl (hp4.blk hb1) 2, Br.of (fun d3 => dwE_intro fun w5 hp5 _ => ?_) (fun d3 => ?_)⟩
  · have hk2 : k < t.recs.length := by have := dtrue d3; omega
    obtain ⟨x, hx⟩ := at_k hk2
    have hp15 := hp4.trans hp5
    obtain ⟨a, q, ha, hi, hq, c0, c1⟩ := recAt ((h.recs.pu hp1).pu hp15) hx
    refine ⟨_, cl (hp15.blk hb1) 1, _, cl0 (hp15.blk hb1), _, cl (hp15.blk hb1) 2, a, ha, by omega, by omega, _, c0, _, c1, (rValidRec_c t.page ((h.fields.pu hp1).pu hp15) hq).mono ?_⟩
    rintro e w6 ⟨rfl, hp6⟩
    refine ⟨_, rfl, Br.of (fun d4 => ⟨by rw [e0, firstBad_at hal hx (bntrue d4)], hp1.trans (hp15.trans hp6)⟩) (fun d4 => ?_)⟩
    rw [wrap_in (by omega) (by omega)]
    refine hJ _ _ hk2 ⟨by omega, fun y hy => ?_, hp15.trans hp6⟩
    rw [take_at hx, List.mem_append, List.mem_singleton] at hy
    rcases hy with hy | rfl
    · exact hal y hy
    · exact bnfalse d4
  · have hk2 : k = t.recs.length := by have := dfalse d3; omega
    subst hk2
    rw [List.take_length] at hal
    exact ⟨by rw [e0, firstBad_none hal], hp1.trans hp4⟩
theorem validTbl_c {w : World} {t : Tbl} {f r : SV} (h : RdTbl w t f r) (hl : Lim.ok t.fields) : Calls Tryz.prog 38 #[tblA t f r] w fun e w' => e = .returned (.int .i64 (validT t)) /\ Pu w w' := by
  refine F38_calls _ _ _ w _ ?_
  refine alB fun w1 hp1 hb1 => ⟨_, cl0 hb1, (isPage_c t.page w1).mono ?_⟩
  rintro e w2 ⟨rfl, hp2⟩
  have h1 := h.recs.len
  have h3 := h.recs.lim
  have h1f := h.fields.len
  have h3f := h.fields.lim
  refine ⟨_, rfl, Br.of (fun d => ⟨by rw [validT_page (by simpa using d)], hp1.trans hp2⟩) (fun d => ⟨_, cl (hp2.blk hb1) 1, (validFields_c (h.fields.pu (hp1.trans hp2)) hl).mono ?_⟩)⟩
  have hpg : pageB t.page = true := by simpa using d
  rintro e w3 ⟨rfl, hp3⟩
  have hp13 := hp2.trans hp3
  refine ⟨_, rfl, Br.of (fun d1 => ⟨by rw [validT_fields hpg (bntrue d1)], hp1.trans hp13⟩) (fun d1 => ⟨_, cl (hp13.blk hb1) 2, Br.of (fun d2 => ⟨by rw [validT_many hpg (bnfalse d1) (by have := dtrue d2; omega)], hp1.trans hp13⟩) (fun d2 => ⟨_, cl (hp13.blk hb1) 2, ?_⟩)⟩)⟩
  have hvf := bnfalse d1
  obtain ⟨_, hall, _, _, _⟩ := validF_ok hvf
  have e0 := validT_recs hpg hvf (by have := dfalse d2; omega)
  refine loopUp t.recs.length (fun k u w' => u = (k : Int) /\ (∀ x ∈ t.recs.take k, validR t.fields t.page x = 0) /\ Pu w1 w') ⟨rfl, by simp, hp13⟩ ?_
  rintro k J u w4 hk ⟨hu, hal, hp4⟩ hJ
  obtain rfl : u = (k : Int) := hu
  refine Br.of (fun d3 => ?_) (fun d3 => ?_)
  · have hk2 : k < t.recs.length := by have := dtrue d3; omega
    obtain ⟨x, hx⟩ := at_k hk2
    obtain ⟨a, q, ha, hi, hq, c0, c1⟩ := recAt ((h.recs.pu hp1).pu hp4) hx
    have next : ∀ {w6 : World}, Pu w4 w6 -> validR t.fields t.page x = 0 -> F38_2 (fun e w' => e = .returned (.int .i64 (validT t)) /\ Pu w w') J (some (⟨w.heap.size, 0, none⟩ : Addr)) r ((r.len : Nat) : Int) (k : Int) [] w6 := fun {w6} hp6 h0 => by
      show J (IntKind.i64.wrap ((k : Int) + 1)) w6
      rw [wrap_in (by omega) (by omega)]
      refine hJ _ _ hk2 ⟨by omega, fun y hy => ?_, hp4.trans hp6⟩
      rw [take_at hx, List.mem_append, List.mem_singleton] at hy
      rcases hy with hy | rfl
      · exact hal y hy
      · exact h0
    have hql := hq.len
    refine ⟨a, ha, by omega, by omega, _, c0, _, c1, boxA rfl (by kernel_rfl) rfl fun w5 hp5 hs5 hb5 => ⟨_, cl hb5 1, _, cl ((hp4.trans hp5).blk hb1) 1, Br.of (fun d4 => ?_) (fun d4 => ⟨_, cl ((hp4.trans hp5).blk hb1) 1, ?_⟩)⟩⟩
    · have : validR t.fields t.page x = 10 := validR_len (by have := bntrue d4; omega)
      exact ⟨by rw [e0, firstBad_at hal hx (by rw [this]; omega), this], hp1.trans (hp4.trans hp5)⟩
    have hlen : x.v.length = t.fields.length := by have := bnfalse d4; omega
    have hp15 := hp4.trans hp5
    refine loopUp t.fields.length (fun j u w' => u = (j : Int) /\ ((t.fields.zip x.v).take j).all (fun y => fitsV y.1 t.page y.2) = true /\ Pu w5 w') ⟨rfl, rfl, Pu.refl _⟩ ?_
    rintro j J2 u w6 hj ⟨hu, haz, hp6⟩ hJ2
    obtain rfl : u = (j : Int) := hu
    have hp16 := hp15.trans hp6
    refine Br.of (fun d5 => ?_) (fun d5 => ?_)
    · have hj2 : j < t.fields.length := by have := dtrue d5; omega
      obtain ⟨g, hg⟩ := at_k hj2
      obtain ⟨v, hv⟩ := at_k (show j < x.v.length by omega)
      obtain ⟨b, hb, hbi, _, _, c', k0, k1, k2, k3⟩ := fldAt ((h.fields.pu hp1).pu hp16) hg
      refine ⟨b, hb, by omega, by omega, _, k0, _, k1, _, k2, _, k3, boxA rfl s23.symm rfl fun w7 hp7 hs7 hb7 => dwE_intro fun w8 hp8 _ => ?_⟩
      have hp68 := hp7.trans hp8
      have hp18 := hp16.trans hp68
      have hb8 := hp8.blk hb7
      obtain ⟨m, hm, hmi, _, _, v0, v1, v2⟩ := valAt (hq.pu ((hp5.trans hp6).trans hp68)) hv
      refine ⟨_, cl hb8 0, _, cl hb8 1, _, cl hb8 2, _, cl hb8 3, _, cl0 (hp18.blk hb1), q, cl ((hp6.trans hp68).blk hb5) 1, m, hm, by omega, by omega, _, v0, _, v1, _, v2, (holds_c g t.page v (hl g (List.mem_of_getElem? hg)) (List.all_eq_true.1 hall g (List.mem_of_getElem? hg)) hpg w8).mono ?_⟩
      rintro e w9 ⟨rfl, hp9⟩
      have hz := zip_at hg hv
      refine ⟨_, rfl, Br.of (fun d6 => ?_) (fun d6 => ?_)⟩
      · have : fitAll t.fields t.page x.v = false := by unfold fitAll; rw [List.all_eq_false]; exact ⟨_, List.mem_of_getElem? hz, by simpa using d6⟩
        have h1 : validR t.fields t.page x = 1 := by rw [validR_fit hlen, this]; rfl
        exact ⟨by rw [e0, firstBad_at hal hx (by rw [h1]; omega), h1], hp1.trans (hp18.trans hp9)⟩
      · rw [wrap_in (by omega) (by omega)]
        exact hJ2 _ _ hj2 ⟨by omega, by rw [all_take _ hz, haz, show fitsV g t.page v = true by simpa using d6]; rfl, (hp6.trans hp68).trans hp9⟩
    · have hj2 : j = t.fields.length := by have := dfalse d5; omega
      have : fitAll t.fields t.page x.v = true := by unfold fitAll; rw [← haz, List.take_of_length_le (by rw [List.length_zip]; omega)]
      exact next (hp5.trans hp6) (by rw [validR_fit hlen, this]; rfl)
  · have hk2 : k = t.recs.length := by have := dfalse d3; omega
    subst hk2
    rw [List.take_length] at hal
    exact ⟨by rw [e0, firstBad_none hal], hp1.trans hp4⟩
end Go.Proofs.YtcihcbfcgjepfaaGreatDoor

/- Table: lengths and offsets; how large a table is; the law on which tables there are. No condition. -/
set_option maxRecDepth 100000
set_option linter.unusedVariables false
set_option linter.unusedSimpArgs false
namespace Go.Proofs.YtcihcbfcgjepfaaGreatDoor
open Go.Sh Go.RowKit
theorem weightOf_c {w : World} {s : SV} {l : List Val} (h : RdSl w s l) : Calls Tryz.prog 91 #[.slice s.a s.len s.cap] w fun e w' => ∃ n : Int, e = .returned (.int .i64 n) /\ Pu w w' := by
  refine F91_calls _ w _ ?_
  have hlen := h.len
  have hlim := h.lim
  refine loopUp l.length (fun k t w' => t.2 = (k : Int) /\ Pu w w') ⟨rfl, Pu.refl _⟩ ?_
  rintro k J ⟨t1, t2⟩ w2 hk ⟨ht, hp⟩ hJ
  obtain rfl : t2 = (k : Int) := ht
  dsimp only
  refine Br.of (fun d => ?_) (fun d => ⟨_, rfl, hp⟩)
  have hk2 : k < l.length := by have := dtrue d; omega
  obtain ⟨v, hv⟩ := at_k hk2
  obtain ⟨a, ha, hi, _, _, c0, c1, c2⟩ := valAt (h.pu hp) hv
  refine ⟨a, ha, by omega, by omega, _, c2, ?_⟩
  rw [wrap_in (n := (k : Int) + 1) (by omega) (by omega)]
  exact hJ _ _ hk2 ⟨by dsimp only; omega, hp⟩
theorem weight_c {w : World} {t : Tbl} {f r : SV} (h : RdTbl w t f r) : Calls Tryz.prog 36 #[tblA t f r] w fun e w' => ∃ n : Int, e = .returned (.int .i64 n) /\ Pu w w' := by
  refine F36_calls _ _ _ w _ (alB fun w1 hp1 hb1 => ⟨_, cl hb1 1, ?_⟩)
  have hfl := h.fields.len
  have hfm := h.fields.lim
  have hrl := h.recs.len
  have hrm := h.recs.lim
  refine loopUp t.fields.length (fun k u w' => u.2 = (k : Int) /\ Pu w1 w') ⟨rfl, Pu.refl _⟩ ?_
  rintro k J ⟨u1, u2⟩ w2 hk ⟨hu, hp⟩ hJ
  obtain rfl : u2 = (k : Int) := hu
  dsimp only
  refine ⟨_, cl (hp.blk hb1) 1, Br.of (fun d => ?_) (fun d => ?_)⟩
  · have hk2 : k < t.fields.length := by have := dtrue d; omega
    obtain ⟨x, hx⟩ := at_k hk2
    obtain ⟨a, ha, hi, _, _, c, _⟩ := fldAt (h.fields.pu (hp1.trans hp)) hx
    refine ⟨_, cl (hp.blk hb1) 1, a, ha, by omega, by omega, _, c, ?_⟩
    rw [wrap_in (n := (k : Int) + 1) (by omega) (by omega)]
    exact hJ _ _ hk2 ⟨by dsimp only; omega, hp⟩
  clear hJ J
  refine loopUp t.recs.length (fun k u w' => u.2 = (k : Int) /\ Pu w1 w') ⟨rfl, hp⟩ ?_
  rintro k J ⟨u1, u2⟩ w2 hk ⟨hu, hp⟩ hJ
  obtain rfl : u2 = (k : Int) := hu
  dsimp only
  refine ⟨_, cl (hp.blk hb1) 2, Br.of (fun d => ?_) (fun d => ⟨_, rfl, hp1.trans hp⟩)⟩
  have hk2 : k < t.recs.length := by have := dtrue d; omega
  obtain ⟨x, hx⟩ := at_k hk2
  obtain ⟨a, q, ha, hi, hq, c0, c1⟩ := recAt (h.recs.pu (hp1.trans hp)) hx
  refine ⟨_, cl (hp.blk hb1) 2, a, ha, by omega, by omega, _, c1, (weightOf_c hq).mono ?_⟩
  rintro e w3 ⟨n, rfl, hp3⟩
  refine ⟨n, rfl, ?_⟩
  rw [wrap_in (n := (k : Int) + 1) (by omega) (by omega)]
  exact hJ _ _ hk2 ⟨by dsimp only; omega, hp.trans hp3⟩
theorem u55 : Tryz.prog.underlying 43 = some (.slice 3) := by kernel_rfl
theorem info3 : (Tryz.prog.info? 3).map (fun i => (i.zero, i.size, i.bytes)) = some (some (.int .i64 0), 1, 8) := by kernel_rfl
def NewI (w0 w : World) (s : SV) (l : List Int) : Prop := RowAt w 3 1 s (l.map intV) /\ ∀ b ∈ blkOf s, w0.heap.size <= b
theorem NewI.len {w0 w : World} {s : SV} {l : List Int} (h : NewI w0 w s l) : s.len = l.length := by have := h.1.1; simp at this; omega
theorem NewI.pu {w0 w w' : World} {s : SV} {l : List Int} (h : NewI w0 w s l) (hp : Pu w w') : NewI w0 w' s l := ⟨h.1.pu hp, h.2⟩
theorem NewI.nil (w0 w : World) : NewI w0 w ⟨none, 0, 0⟩ [] := ⟨RowAt.nil w 3 1, by simp [blkOf]⟩
theorem NewI.low {w0 w1 w : World} {s : SV} {l : List Int} (h : NewI w1 w s l) (hz : w0.heap.size <= w1.heap.size) : NewI w0 w s l := ⟨h.1, fun b hb => Nat.le_trans hz (h.2 b hb)⟩
theorem NewI.push {w0 w : World} {s : SV} {l : List Int} (h : NewI w0 w s l) (hz : w0.heap.size <= w.heap.size) {r : Nat} {n : Int} (hr : w.heap[r]? = some (.cells #[.int .i64 n] 3)) (hb : l.length <= 1000000) :
    ∃ (s' : SV) (w' : World), (Builtin.append_ #[43, 43] 43 #[.slice s.a s.len s.cap, .slice (some ⟨r, 0, none⟩) 1 1]).run Tryz.prog w = .ok (.slice s'.a s'.len s'.cap) w' /\ NewI w0 w' s' (l ++ [n]) /\ Fr (· ∈ blkOf s) w w' := by
  have h1 := h.len
  obtain ⟨s', w', hra, hrow, hf, hblk, _⟩ := row_push (P := Tryz.prog) (ty := 43) u55 info3 rfl h.1 (a := ⟨r, 0, none⟩) (u := .int .i64 n) (by rw [cell_blk hr]; rfl) rfl (by omega)
  refine ⟨s', w', hra, ⟨by simpa using hrow, fun b hb => ?_⟩, hf⟩
  rcases hblk b hb with h2 | h2
  · exact h.2 b h2
  · omega
end Go.Proofs.YtcihcbfcgjepfaaGreatDoor

/- Table: the law on what a value becomes in a field. No condition. -/
set_option maxRecDepth 100000
set_option linter.unusedVariables false
set_option linter.unusedSimpArgs false
namespace Go.Proofs.YtcihcbfcgjepfaaGreatDoor
open Go.Sh Go.RowKit
theorem dropWhile_idem {α : Type} (p : α -> Bool) : ∀ l : List α, (l.dropWhile p).dropWhile p = l.dropWhile p
  | [] => rfl
  | a :: l => by
    by_cases h : p a = true
    · rw [List.dropWhile_cons, if_pos h]; exact dropWhile_idem p l
    · rw [List.dropWhile_cons, if_neg h, List.dropWhile_cons, if_neg h]
theorem bare_bare (l : List UInt8) : bare (bare l) = bare l := by
  unfold bare; rw [List.reverse_reverse, dropWhile_idem]
theorem sameValue_c (a b : Val) (w : World) : Calls Tryz.prog 19 #[valA a, valA b] w fun e w' => e = .returned (.bool (decide (a = b))) /\ Pu w w' := by
  refine F19_calls _ _ _ _ _ _ w _ ?_
  refine alB fun w1 hp1 hb1 => alB fun w2 hp2 hb2 => ?_
  have hp := hp1.trans hp2
  have q1 := hp2.blk hb1
  refine ⟨_, cl0 q1, _, cl0 hb2, Br.of (fun d => ⟨_, cl q1 1, _, cl hb2 1, Br.of (fun d1 => ⟨_, cl q1 2, _, cl hb2 2, ?_, hp⟩) (fun d1 => ⟨?_, hp⟩)⟩) (fun d => ⟨?_, hp⟩)⟩
  · rw [toList_beq]
    congr 2
    have e1 : a.kind = b.kind := btrue d
    have e2 : a.n = b.n := btrue d1
    refine dec_eq ⟨fun e3 => ?_, fun e => by rw [e]⟩
    obtain ⟨a1, a2, a3⟩ := a; obtain ⟨b1, b2, b3⟩ := b
    simp only at e1 e2 e3
    subst e1 e2 e3; rfl
  · rw [decide_eq_false (fun e => bfalse d1 (by rw [e]))]
  · rw [decide_eq_false (fun e => bfalse d (by rw [e]))]
end Go.Proofs.YtcihcbfcgjepfaaGreatDoor

/- Table: records of empty values, places of names; the law on them. No condition. -/
set_option maxRecDepth 100000
set_option linter.unusedVariables false
set_option linter.unusedSimpArgs false
namespace Go.Proofs.YtcihcbfcgjepfaaGreatDoor
open Go.Sh Go.RowKit
theorem u44 : Tryz.prog.underlying 75 = some (.slice 28) := by kernel_rfl
theorem info25 : (Tryz.prog.info? 28).map (fun i => (i.zero, i.size, i.bytes)) = some (some (.agg #[.int .i64 0, .int .i64 0, .string ⟨#[]⟩]), 3, 32) := by kernel_rfl
theorem s46 : sizeB Tryz.prog 77 = 2 := by kernel_rfl
theorem valV_len (v : Val) : (valV v).length = 3 := rfl
def NewV (w0 w : World) (s : SV) (l : List Val) : Prop := RowAt w 28 3 s (l.flatMap valV) /\ ∀ b ∈ blkOf s, w0.heap.size <= b
theorem NewV.len {w0 w : World} {s : SV} {l : List Val} (h : NewV w0 w s l) : s.len = l.length := h.1.len valV_len (by decide)
theorem NewV.pu {w0 w w' : World} {s : SV} {l : List Val} (h : NewV w0 w s l) (hp : Pu w w') : NewV w0 w' s l := ⟨h.1.pu hp, h.2⟩
theorem NewV.fr {B : Nat -> Prop} {w0 w w' : World} {s : SV} {l : List Val} (h : NewV w0 w s l) (hf : Fr B w w') (hn : ∀ k ∈ blkOf s, ¬ B k) : NewV w0 w' s l := ⟨h.1.fr hf hn, h.2⟩
theorem NewV.nil (w0 w : World) : NewV w0 w ⟨none, 0, 0⟩ [] := ⟨RowAt.nil w 28 3, by simp [blkOf]⟩
theorem NewV.low {w0 w1 w : World} {s : SV} {l : List Val} (h : NewV w1 w s l) (hz : w0.heap.size <= w1.heap.size) : NewV w0 w s l := ⟨h.1, fun b hb => Nat.le_trans hz (h.2 b hb)⟩
theorem NewV.push {w0 w : World} {s : SV} {l : List Val} (h : NewV w0 w s l) (hz : w0.heap.size <= w.heap.size) {r : Nat} {v : Val} {c : Array Value} (hr : w.heap[r]? = some (.cells c 28)) (hc : c = #[.int .i64 v.kind, .int .i64 v.n, .string v.s]) (hb : l.length <= 1000000) :
    ∃ (s' : SV) (w' : World), (Builtin.append_ #[75, 75] 75 #[.slice s.a s.len s.cap, .slice (some ⟨r, 0, none⟩) 1 1]).run Tryz.prog w = .ok (.slice s'.a s'.len s'.cap) w' /\ NewV w0 w' s' (l ++ [v]) /\ Fr (· ∈ blkOf s) w w' := by
  subst hc
  have h1 := h.len
  obtain ⟨s', w', hra, hrow, hf, hblk, _⟩ := row_append_any (P := Tryz.prog) (ty := 75) u44 info25 rfl (by decide) h.1 (A := some ⟨r, 0, none⟩) (m := 1) (c := 1) (news := valV v) rfl (fun j u hu => ⟨_, rfl, by rw [cl hr]; simpa using hu⟩) (fun u hu => by simp [valV] at hu; rcases hu with rfl | rfl | rfl <;> rfl) (by omega)
  refine ⟨s', w', hra, ⟨by simpa using hrow, fun b hb => ?_⟩, hf⟩
  rcases hblk b hb with h2 | h2
  · exact h.2 b h2
  · omega
structure RdV (w : World) (s : SV) (l : List Val) : Prop where
  len : s.len = l.length
  lim : l.length <= 140737488355328
  get : ∀ i v, l[i]? = some v -> ∃ a, s.a = some a /\ w.cell? ((a.add (i * 3)).add 0) = some (.int .i64 v.kind) /\ w.cell? ((a.add (i * 3)).add 1) = some (.int .i64 v.n) /\ w.cell? ((a.add (i * 3)).add 2) = some (.string v.s)
theorem RdV.pu {w w' : World} {s : SV} {l : List Val} (h : RdV w s l) (hp : Pu w w') : RdV w' s l := ⟨h.len, h.lim, fun i v hv => by
  obtain ⟨a, h1, h2, h3, h4⟩ := h.get i v hv
  exact ⟨a, h1, hp.cell h2, hp.cell h3, hp.cell h4⟩⟩
theorem RdV.of {w : World} {s : SV} {l : List Val} (h : RdSl w s l) : RdV w s l := ⟨h.len, by have := h.lim; have := h.len; omega, fun i v hv => by
  obtain ⟨a, h1, _, _, _, h2, h3, h4⟩ := valAt h hv
  exact ⟨a, h1, h2, h3, h4⟩⟩
theorem NewV.rd {w0 w : World} {s : SV} {l : List Val} (h : NewV w0 w s l) (hb : l.length <= 140737488355328) : RdV w s l := ⟨h.len, hb, fun i v hv => by
  obtain ⟨a, h1, _, h2⟩ := h.1.elem valV_len hv (o := 0) rfl
  obtain ⟨a', h1', _, h3⟩ := h.1.elem valV_len hv (o := 1) rfl
  obtain ⟨a'', h1'', _, h4⟩ := h.1.elem valV_len hv (o := 2) rfl
  rw [h1] at h1' h1''; cases h1'; cases h1''
  exact ⟨a, h1, h2, h3, h4⟩⟩
theorem rNum_c (n : Int) (w : World) : Calls Tryz.prog 37 #[.int .i64 n] w fun e w' => e = .returned (valA ⟨2, n, ⟨#[]⟩⟩) /\ Pu w w' := by
  refine F37_calls _ w _ (boxA rfl s25.symm rfl fun w1 hp1 _ hb1 => ?_)
  exact ⟨_, cl hb1 0, _, cl hb1 1, _, cl hb1 2, rfl, hp1⟩
def idxN (l : List Fld) (s : ByteArray) : Option Nat := l.findIdx? fun f => decide (f.name = s)
def idxK (l : List Fld) (s : ByteArray) : Int := ((idxN l s).getD 0 : Nat)
theorem index_c {w : World} {s : SV} {l : List Fld} (h : RdSl w s l) (nm : ByteArray) : Calls Tryz.prog 51 #[.slice s.a s.len s.cap, .string nm] w fun e w' => e = .returned (.tuple #[.int .i64 (idxK l nm), .bool (idxN l nm).isSome]) /\ Pu w w' := by
  refine F51_calls _ _ w _ (alB fun w1 hp1 hb1 => ?_)
  have tells : TellsF l 105 #[.pointer (some ⟨w.heap.size, 0, none⟩)] (fun f => decide (f.name = nm)) w1 := ⟨by kernel_rfl, fun f hf w2 hp2 => by
    refine F105_calls _ _ _ _ _ w2 _ (alB fun w3 hp3 hb3 => ⟨_, cl0 hb3, _, cl0 ((hp2.trans hp3).blk hb1), ?_, hp3⟩)
    rw [toList_beq]⟩
  refine (indexFunc_c (h.pu hp1) tells).mono ?_
  rintro e w2 ⟨rfl, hp2⟩
  refine ⟨_, rfl, _, w2, max_run _ _ _ _ _ _, ?_, hp1.trans hp2⟩
  unfold idxK idxN
  cases l.findIdx? fun f => decide (f.name = nm) with
  | none => rfl
  | some k =>
    dsimp only
    rw [Int.max_eq_left (by omega), decide_eq_true (by omega)]; rfl
end Go.Proofs.YtcihcbfcgjepfaaGreatDoor

/- Desks: data, and what each call does with them, in plain words. No condition. -/
set_option linter.unusedVariables false
set_option linter.unusedSimpArgs false
namespace Go.Proofs.YtcihcbfcgjepfaaGreatDoor
open Go.Sh Go.RowKit
structure Usr where
  mode : Int
  at_ : Int
  ch : List (Int × (Rec × Rec))
  ap : List Rec
structure Dsk where
  page : Int
  flds : List Fld
  recs : List Rec
  us : Nat -> Usr
  lk : Int -> Option Int
def Usr.new : Usr := ⟨0, 0, [], []⟩
def Dsk.new (t : Tbl) : Dsk := ⟨t.page, t.fields, t.recs, fun _ => Usr.new, fun _ => none⟩
def Dsk.setU (σ : Dsk) (u : Nat) (x : Usr) : Dsk := { σ with us := fun v => if v = u then x else σ.us v }
def Usr.emp (x : Usr) : Bool := decide (x.ch.length + x.ap.length = 0)
def Usr.rows (x : Usr) : Bool := decide (x.mode = 1) || decide (x.mode = 2)
def isU (u : Int) : Bool := decide (0 <= u) && decide (u < 4)
def modeC (u m : Int) (σ : Dsk) : Int := if ¬ isU u = true then 1 else if m < 0 ∨ m > 4 then 1 else if (σ.us u.toNat).emp = false then 9 else 0
def modeS (u m : Int) (σ : Dsk) : Dsk := if modeC u m σ = 0 then σ.setU u.toNat { σ.us u.toNat with mode := m } else σ
def seenR (σ : Dsk) (u : Nat) (k : Int) : Option Rec :=
  if k < 0 then (σ.us u).ap[(-k - 1).toNat]? else if k < 1 ∨ k > σ.recs.length then none else match AL.get (σ.us u).ch k with
    | some c => some c.2
    | none => σ.recs[(k - 1).toNat]?
def clashV (a b c : Val) : Bool := !decide (a = b) && (!decide (c = a) && !decide (c = b))
def clashB (a b c : Bool) : Bool := !decide (a = b) && (!decide (c = a) && !decide (c = b))
def clashL : List Val -> List Val -> List Val -> Bool
  | a :: xs, b :: bs, c :: cs => clashV a b c || clashL xs bs cs
  | _, _, _ => false
def clashR (c : Rec × Rec) (r : Rec) : Bool := clashB c.1.gone c.2.gone r.gone || clashL c.1.v c.2.v r.v
theorem clashB_false (a b c : Bool) : clashB a b c = false := by cases a <;> cases b <;> cases c <;> rfl
def recK (σ : Dsk) (k : Int) : Rec := σ.recs.getD (k - 1).toNat default
def keysU (σ : Dsk) (u : Nat) : List Nat := (List.range σ.recs.length).filter fun i => (AL.get (σ.us u).ch ((i : Int) + 1)).isSome
def clashK (σ : Dsk) (u : Nat) : List Nat := (List.range σ.recs.length).filter fun i => match AL.get (σ.us u).ch ((i : Int) + 1) with
  | some c => clashR c (recK σ ((i : Int) + 1))
  | none => false
def mixV : List Val -> List Val -> List Val -> List Val
  | a :: xs, b :: bs, c :: cs => (if a = b then c else b) :: mixV xs bs cs
  | _, _, cs => cs
theorem mixV_len : ∀ a b c : List Val, (mixV a b c).length = c.length
  | [], _, c => rfl
  | _ :: _, [], c => rfl
  | _ :: _, _ :: _, [] => rfl
  | a :: xs, b :: bs, c :: cs => by simp [mixV, mixV_len xs bs cs]
def applyC (c : Rec × Rec) (r : Rec) : Rec := ⟨if c.1.gone = c.2.gone then r.gone else c.2.gone, mixV c.1.v c.2.v r.v⟩
def applyAll (ch : List (Int × (Rec × Rec))) (l : List Rec) : List Rec := l.mapIdx fun i r => match AL.get ch ((i : Int) + 1) with
  | some c => applyC c r
  | none => r
theorem applyAll_len (ch : List (Int × (Rec × Rec))) (l : List Rec) : (applyAll ch l).length = l.length := by simp [applyAll]
def busyB (σ : Dsk) (u : Nat) : Bool := (σ.us u).ch.any fun c => match σ.lk c.1 with
  | some v => !decide (v = (u : Int))
  | none => false
def cleanS (u : Nat) (σ : Dsk) : Dsk := { σ.setU u { σ.us u with ch := [], ap := [] } with lk := fun k => if σ.lk k = some (u : Int) then none else σ.lk k }
def storeC (u : Nat) (force : Bool) (σ : Dsk) : Int := if force = false /\ clashK σ u ≠ [] then 13 else if busyB σ u = true then 12 else 0
def storeL (u : Nat) (σ : Dsk) : List Int := (List.range (σ.us u).ap.length).map fun (i : Nat) => ((σ.recs.length : Int) + i) + 1
def storedS (u : Nat) (σ : Dsk) : Dsk :=
  let x := σ.us u
  cleanS u ({ σ with recs := applyAll x.ch σ.recs ++ x.ap }.setU u { x with at_ := if x.at_ < 0 then (σ.recs.length : Int) - x.at_ else x.at_ })
def storeS (u : Nat) (force : Bool) (σ : Dsk) : Dsk := if storeC u force σ = 0 then storedS u σ else σ
def leaveC (u : Nat) (σ : Dsk) : Int := if (σ.us u).rows = false ∨ (σ.us u).emp = true then 0 else storeC u false σ
def leaveS (u : Nat) (σ : Dsk) : Dsk := if (σ.us u).rows = false ∨ (σ.us u).emp = true then σ else storeS u false σ
def storeE (u : Int) (force : Bool) (σ : Dsk) : Int := if isU u = true then storeC u.toNat force σ else 1
def storeEL (u : Int) (force : Bool) (σ : Dsk) : List Int := if storeE u force σ = 0 then storeL u.toNat σ else []
def storeES (u : Int) (force : Bool) (σ : Dsk) : Dsk := if isU u = true then storeS u.toNat force σ else σ
def goC (u k : Int) (σ : Dsk) : Int := if ¬ isU u = true then 1 else if seenR σ u.toNat k = none then 4 else if k = (σ.us u.toNat).at_ then 0 else leaveC u.toNat σ
def goS (u k : Int) (σ : Dsk) : Dsk := if goC u k σ ≠ 0 then σ else
  let σ' := if k = (σ.us u.toNat).at_ then σ else leaveS u.toNat σ
  σ'.setU u.toNat { σ'.us u.toNat with at_ := k }
def allN (σ : Dsk) : Nat := σ.recs.length + ((σ.us 0).ap.length + (σ.us 1).ap.length + (σ.us 2).ap.length + (σ.us 3).ap.length)
def lockC (u : Nat) (σ : Dsk) : Int := let x := σ.us u
  if x.mode = 2 ∨ x.mode = 4 ∨ x.at_ < 0 then 0 else match σ.lk x.at_ with
    | some v => if v = (u : Int) then 0 else 12
    | none => 0
def lockS (u : Nat) (σ : Dsk) : Dsk := let x := σ.us u
  if x.mode = 2 ∨ x.mode = 4 ∨ x.at_ < 0 ∨ x.mode = 0 then σ else { σ with lk := fun k => if k = x.at_ then some (u : Int) else σ.lk k }
def alterS (u : Nat) (f : Rec -> Rec) (σ : Dsk) : Dsk := let x := σ.us u
  if x.at_ < 0 then σ.setU u { x with ap := x.ap.modify (-x.at_ - 1).toNat f }
  else if x.mode = 0 then { σ with recs := σ.recs.modify (x.at_ - 1).toNat f }
  else let c := (AL.get x.ch x.at_).getD (recK σ x.at_, recK σ x.at_)
    (lockS u σ).setU u { x with ch := AL.put x.ch x.at_ (c.1, f c.2) }
def setVal (i : Nat) (v : Val) (r : Rec) : Rec := { r with v := r.v.set i v }
def setMark (g : Bool) (r : Rec) : Rec := { r with gone := g }
def setC (u : Int) (field : ByteArray) (v : Val) (σ : Dsk) : Int := if ¬ isU u = true then 1 else if (σ.us u.toNat).at_ = 0 then 9 else match idxN σ.flds field with
  | none => 4
  | some i => if (fitS (σ.flds.getD i default) σ.page v).2 ≠ 0 then (fitS (σ.flds.getD i default) σ.page v).2 else lockC u.toNat σ
def setS (u : Int) (field : ByteArray) (v : Val) (σ : Dsk) : Dsk := if setC u field v σ = 0 then match idxN σ.flds field with
  | none => σ
  | some i => alterS u.toNat (setVal i (fitS (σ.flds.getD i default) σ.page v).1) σ
  else σ
def markC (u : Int) (σ : Dsk) : Int := if ¬ isU u = true then 1 else if (σ.us u.toNat).at_ = 0 then 9 else lockC u.toNat σ
def markS (u : Int) (g : Bool) (σ : Dsk) : Dsk := if markC u σ = 0 then alterS u.toNat (setMark g) σ else σ
def valueR (σ : Dsk) (r : Option Rec) (field : ByteArray) : Val × Int := match r, idxN σ.flds field with
  | some r, some i => (r.v.getD i noV, 0)
  | _, _ => (noV, 4)
def nowR (k : Int) (field : ByteArray) (σ : Dsk) : Val × Int := if k < 1 ∨ k > σ.recs.length then (noV, 4) else valueR σ (some (recK σ k)) field
def uC (u : Int) : Int := if isU u = true then 0 else 1
end Go.Proofs.YtcihcbfcgjepfaaGreatDoor

/- Desks: what holds of a desk throughout, in plain words. No condition but those stated. -/
set_option linter.unusedVariables false
set_option linter.unusedSimpArgs false
namespace Go.Proofs.YtcihcbfcgjepfaaGreatDoor
open Go.Sh Go.RowKit
structure Inv (σ : Dsk) : Prop where
  pg : pageB σ.page = true
  vf : validF σ.flds = 0
  gr : ∀ r ∈ σ.recs, validR σ.flds σ.page r = 0
  ga : ∀ u, u < 4 -> ∀ r ∈ (σ.us u).ap, validR σ.flds σ.page r = 0
  gc : ∀ u, u < 4 -> ∀ c ∈ (σ.us u).ch, (validR σ.flds σ.page c.2.1 = 0 /\ validR σ.flds σ.page c.2.2 = 0) /\ 1 <= c.1 /\ c.1 <= σ.recs.length
  cn : ∀ u, u < 4 -> ((σ.us u).ch.map Prod.fst).Nodup
  at_ : ∀ u, u < 4 -> (σ.us u).at_ <= σ.recs.length /\ -(σ.us u).at_ <= (σ.us u).ap.length
  rw_ : ∀ u, u < 4 -> (σ.us u).rows = true -> (σ.us u).ap ≠ [] -> (σ.us u).ap.length = 1 /\ (σ.us u).at_ = -1
  nn : allN σ <= 300
  lr : ∀ k v, σ.lk k = some v -> 1 <= k /\ k <= σ.recs.length /\ 0 <= v /\ v < 4
theorem validF_parts {l : List Fld} (h : validF l = 0) : l ≠ [] /\ l.all fieldB = true /\ l.length <= 16 := by
  unfold validF at h
  split at h
  · cases h
  · next h1 =>
    split at h
    · cases h
    · split at h
      · cases h
      · next h2 h3 => exact ⟨fun e => h1 (.inl e), by simpa using fun e => h1 (.inr e), by omega⟩
theorem fieldB_lim {f : Fld} (h : fieldB f = true) : In64 f.kind /\ In64 f.width /\ f.name.size <= 10 := by
  unfold fieldB nameB kindW at h
  simp only [Bool.and_eq_true, decide_eq_true_eq] at h
  obtain ⟨⟨⟨⟨_, h2⟩, _⟩, _⟩, h3⟩ := h
  refine ⟨?_, ?_, h2⟩ <;> unfold In64 <;> (repeat' split at h3) <;> (try simp only [Bool.and_eq_true, decide_eq_true_eq] at h3) <;> first | omega | cases h3
theorem validR_right {l : List Fld} {p : Int} {r : Rec} (h : validR l p r = 0) : r.v.length = l.length := by
  by_cases e : r.v.length = l.length
  · exact e
  · rw [validR_len e] at h; cases h
theorem Inv.f16 {σ : Dsk} (h : Inv σ) : σ.flds.length <= 16 := (validF_parts h.vf).2.2
theorem Inv.fB {σ : Dsk} (h : Inv σ) {f : Fld} (hf : f ∈ σ.flds) : fieldB f = true := List.all_eq_true.1 (validF_parts h.vf).2.1 f hf
theorem Inv.r300 {σ : Dsk} (h : Inv σ) : σ.recs.length <= 300 := Nat.le_trans (Nat.le_add_right _ _) h.nn
theorem Inv.a300 {σ : Dsk} (h : Inv σ) {u : Nat} (hu : u < 4) : (σ.us u).ap.length <= 300 := by
  have := h.nn
  unfold allN at this
  rcases (by omega : u = 0 ∨ u = 1 ∨ u = 2 ∨ u = 3) with rfl | rfl | rfl | rfl <;> omega
end Go.Proofs.YtcihcbfcgjepfaaGreatDoor

/- Desks: right records stay right. No condition but those stated. -/
set_option linter.unusedVariables false
set_option linter.unusedSimpArgs false
namespace Go.Proofs.YtcihcbfcgjepfaaGreatDoor
open Go.Sh Go.RowKit
theorem validR_iff {l : List Fld} {p : Int} {r : Rec} : validR l p r = 0 ↔ r.v.length = l.length /\ ∀ (i : Nat) (f : Fld) (v : Val), l[i]? = some f -> r.v[i]? = some v -> fitsV f p v = true := by
  constructor
  · intro h
    refine ⟨validR_right h, fun i f v hf hv => ?_⟩
    unfold validR at h
    rw [if_neg (by simp [validR_right h])] at h
    split at h
    · next ha =>
      have := List.all_eq_true.1 ha (f, v) (List.mem_of_getElem? (i := i) (by rw [List.getElem?_zip_eq_some]; exact ⟨hf, hv⟩))
      exact this
    · cases h
  · rintro ⟨h1, h2⟩
    unfold validR
    rw [if_neg (by simp [h1]), if_pos]
    refine List.all_eq_true.2 fun x hx => ?_
    obtain ⟨i, hi⟩ := List.getElem?_of_mem hx
    obtain ⟨a, b⟩ := List.getElem?_zip_eq_some.1 hi
    exact h2 i x.1 x.2 a b
theorem fit_fits {f : Fld} {p : Int} {v : Val} (h : (fitS f p v).2 = 0) : fitsV f p (fitS f p v).1 = true := by
  cases hB : fieldB f && pageB p
  · rw [fitS_wrong hB] at h; simp at h
  by_cases hv : validV v ≠ 0
  · rw [fitS_invalid hB hv] at h; exact absurd h hv
  have hv : validV v = 0 := by simpa using hv
  rw [fitS_fitted hB hv] at h ⊢
  have hfB : fieldB f = true := by simp at hB; exact hB.1
  by_cases hk : v.kind = 0
  · unfold fitted at h ⊢
    rw [if_pos hk] at h ⊢
    by_cases hn : f.null = true
    · rw [if_pos hn]
      unfold fitsV
      rw [if_neg (by simp [hv]), if_pos hk]; exact hn
    · rw [if_neg hn] at h; simp at h
  by_cases hk2 : v.kind ≠ (emptyV f).kind
  · unfold fitted at h; rw [if_neg hk, if_pos hk2] at h; simp at h
  by_cases h4 : f.kind = 4
  · obtain ⟨wl, wh⟩ := fld_text hfB h4
    have e1 : fitted f p v = if textB (bare (v.s.data.toList.take f.width.toNat)) p then (⟨4, 0, bs (bare (v.s.data.toList.take f.width.toNat))⟩, 0) else (noV, 10) := by
      unfold fitted; rw [if_neg hk, if_neg hk2, if_pos h4]
    cases ht : textB (bare (v.s.data.toList.take f.width.toNat)) p
    · rw [e1, ht] at h; simp at h
    rw [e1, ht, if_pos rfl]
    have hbl := bare_le (v.s.data.toList.take f.width.toNat)
    have htl := List.length_take_le f.width.toNat v.s.data.toList
    have hb2 := bare_bare (v.s.data.toList.take f.width.toNat)
    generalize bare (v.s.data.toList.take f.width.toNat) = B at *
    have hvB : validV ⟨4, 0, bs B⟩ = 0 := by
      rw [validV_eq, if_neg (by dsimp only; rw [bs_size]; omega)]; rfl
    unfold fitsV
    rw [if_neg (by simp [hvB]), if_neg (show ¬ (4 : Int) = 0 by decide), if_neg (by omega), if_neg (by simp [h4]), if_neg (by omega), if_pos h4]
    rw [bs_list, hb2, ht, bs_size, decide_eq_true rfl, decide_eq_true (show ((B.length : Nat) : Int) <= f.width by omega)]; rfl
  · unfold fitted at h ⊢
    rw [if_neg hk, if_neg hk2, if_neg h4] at h ⊢
    cases hf : fitsV f p v
    · rw [hf] at h; simp at h
    · simp [hf]
theorem mark_right {l : List Fld} {p : Int} {r : Rec} (h : validR l p r = 0) (g : Bool) : validR l p (setMark g r) = 0 := h
theorem set_right {l : List Fld} {p : Int} {r : Rec} (h : validR l p r = 0) {i : Nat} {v : Val} (hv : ∀ f, l[i]? = some f -> fitsV f p v = true) : validR l p (setVal i v r) = 0 := by
  obtain ⟨h1, h2⟩ := validR_iff.1 h
  refine validR_iff.2 ⟨by simp [setVal, h1], fun j f x hf hx => ?_⟩
  replace hx : (r.v.set i v)[j]? = some x := hx
  rw [List.getElem?_set] at hx
  split at hx
  · next e =>
    subst e
    split at hx
    · cases hx; exact hv f hf
    · cases hx
  · exact h2 j f x hf hx
theorem mix_mem : ∀ {a b c : List Val} {i : Nat} {z : Val}, (mixV a b c)[i]? = some z -> c[i]? = some z ∨ b[i]? = some z
  | [], b, c, i, z, h => by cases b <;> cases c <;> exact .inl h
  | x :: a, [], c, i, z, h => by cases c <;> exact .inl h
  | x :: a, y :: b, [], i, z, h => .inl h
  | x :: a, y :: b, w :: c, 0, z, h => by
    simp only [mixV, List.getElem?_cons_zero, Option.some.injEq] at h ⊢
    by_cases e : x = y
    · rw [if_pos e] at h; exact .inl h
    · rw [if_neg e] at h; exact .inr h
  | x :: a, y :: b, w :: c, i + 1, z, h => by
    simp only [mixV, List.getElem?_cons_succ] at h ⊢
    exact mix_mem h
theorem apply_right {l : List Fld} {p : Int} {c : Rec × Rec} {r : Rec} (h2 : validR l p c.2 = 0) (h : validR l p r = 0) : validR l p (applyC c r) = 0 := by
  obtain ⟨a1, a2⟩ := validR_iff.1 h
  obtain ⟨b1, b2⟩ := validR_iff.1 h2
  refine validR_iff.2 ⟨by show (mixV c.1.v c.2.v r.v).length = _; rw [mixV_len, a1], fun i f v hf hv => ?_⟩
  rcases mix_mem hv with hv | hv
  · exact a2 i f v hf hv
  · exact b2 i f v hf hv
end Go.Proofs.YtcihcbfcgjepfaaGreatDoor

/- Desks: what holds of a desk holds behind each call. No condition but those stated. -/
set_option linter.unusedVariables false
set_option linter.unusedSimpArgs false
namespace Go.Proofs.YtcihcbfcgjepfaaGreatDoor
open Go.Sh Go.RowKit
variable {σ : Dsk} {u : Nat}
def Dsk.put (σ : Dsk) (u : Nat) (recs : List Rec) (x : Usr) (lk : Int -> Option Int) : Dsk := ({ σ with recs := recs, lk := lk } : Dsk).setU u x
theorem Inv.chg (h : Inv σ) (hu : u < 4) {recs : List Rec} {x : Usr} {lk : Int -> Option Int} (hr : ∀ r ∈ recs, validR σ.flds σ.page r = 0) (hlen : σ.recs.length <= recs.length) (ha : ∀ r ∈ x.ap, validR σ.flds σ.page r = 0)
    (hc : ∀ c ∈ x.ch, (validR σ.flds σ.page c.2.1 = 0 /\ validR σ.flds σ.page c.2.2 = 0) /\ 1 <= c.1 /\ c.1 <= recs.length) (hn : (x.ch.map Prod.fst).Nodup) (hat : x.at_ <= recs.length /\ -x.at_ <= x.ap.length)
    (hrw : x.rows = true -> x.ap ≠ [] -> x.ap.length = 1 /\ x.at_ = -1) (hN : recs.length + x.ap.length <= σ.recs.length + (σ.us u).ap.length ∨ (allN σ < 300 /\ recs.length + x.ap.length <= σ.recs.length + (σ.us u).ap.length + 1))
    (hl : ∀ k v, lk k = some v -> 1 <= k /\ k <= recs.length /\ 0 <= v /\ v < 4) : Inv (σ.put u recs x lk) := by
  have us : ∀ v, (σ.put u recs x lk).us v = if v = u then x else σ.us v := fun v => rfl
  refine ⟨h.pg, h.vf, hr, fun v hv r hr' => ?_, fun v hv c hc' => ?_, fun v hv => ?_, fun v hv => ?_, fun v hv h1 h2 => ?_, ?_, hl⟩
  · rw [us] at hr'
    by_cases e : v = u
    · rw [if_pos e] at hr'; exact ha r hr'
    · rw [if_neg e] at hr'; exact h.ga v hv r hr'
  · rw [us] at hc'
    by_cases e : v = u
    · rw [if_pos e] at hc'; exact hc c hc'
    · rw [if_neg e] at hc'
      have h1 := h.gc v hv c hc'
      exact ⟨h1.1, h1.2.1, by show c.1 <= (recs.length : Int); omega⟩
  · rw [us]
    by_cases e : v = u
    · rw [if_pos e]; exact hn
    · rw [if_neg e]; exact h.cn v hv
  · rw [us]
    by_cases e : v = u
    · rw [if_pos e]; exact hat
    · rw [if_neg e]
      have h1 := h.at_ v hv
      exact ⟨by show (σ.us v).at_ <= (recs.length : Int); omega, h1.2⟩
  · rw [us] at h1 h2 ⊢
    by_cases e : v = u
    · rw [if_pos e] at h1 h2 ⊢; exact hrw h1 h2
    · rw [if_neg e] at h1 h2 ⊢; exact h.rw_ v hv h1 h2
  · have h1 := h.nn
    unfold allN at h1 hN ⊢
    simp only [us]
    have eR : (σ.put u recs x lk).recs = recs := rfl
    rw [eR]
    rcases (by omega : u = 0 ∨ u = 1 ∨ u = 2 ∨ u = 3) with rfl | rfl | rfl | rfl <;> simp <;> omega
theorem setU_put (x : Usr) : σ.setU u x = σ.put u σ.recs x σ.lk := rfl
theorem Inv.mode (h : Inv σ) (v m : Int) : Inv (modeS v m σ) := by
  unfold modeS
  split
  · next hc =>
    unfold modeC at hc
    split at hc
    · cases hc
    · next hv =>
      split at hc
      · cases hc
      · split at hc
        · cases hc
        · next he =>
          have hv : isU v = true := by simpa using hv
          have hu : v.toNat < 4 := by simp [isU] at hv; omega
          have he : (σ.us v.toNat).emp = true := by simpa using he
          have hap : (σ.us v.toNat).ap = [] := by
            simp [Usr.emp] at he; exact he.2
          rw [setU_put]
          refine h.chg hu h.gr (Nat.le_refl _) (h.ga _ hu) (h.gc _ hu) (h.cn _ hu) (h.at_ _ hu) (fun _ e => absurd hap e) (.inl (Nat.le_refl _)) h.lr
  · exact h
theorem apply_all_right (h : Inv σ) (hu : u < 4) : ∀ r ∈ applyAll (σ.us u).ch σ.recs, validR σ.flds σ.page r = 0 := fun r hr => by
  obtain ⟨i, hi⟩ := List.getElem?_of_mem hr
  unfold applyAll at hi
  rw [List.getElem?_mapIdx] at hi
  obtain ⟨r0, h0, e⟩ := Option.map_eq_some_iff.1 hi
  have g0 := h.gr r0 (List.mem_of_getElem? h0)
  cases hg : AL.get (σ.us u).ch ((i : Int) + 1) with
  | none => rw [hg] at e; rw [← e]; exact g0
  | some c =>
    rw [hg] at e
    rw [← e]
    exact apply_right (h.gc u hu _ (AL.get_mem hg)).1.2 g0
theorem Inv.stored (h : Inv σ) (hu : u < 4) : Inv (storedS u σ) := by
  have hat := h.at_ u hu
  have e : storedS u σ = σ.put u (applyAll (σ.us u).ch σ.recs ++ (σ.us u).ap) { σ.us u with at_ := if (σ.us u).at_ < 0 then (σ.recs.length : Int) - (σ.us u).at_ else (σ.us u).at_, ch := [], ap := [] } fun k => if σ.lk k = some (u : Int) then none else σ.lk k := by
    simp only [storedS, cleanS, Dsk.put, Dsk.setU, Dsk.mk.injEq, true_and, and_true]
    funext v
    by_cases e : v = u
    · simp [e]
    · simp [e]
  rw [e]
  refine h.chg hu (fun r hr => ?_) (by rw [List.length_append, applyAll_len]; omega) (by simp) (by simp) (by simp) ⟨?_, ?_⟩ (by simp) (.inl (by rw [List.length_append, applyAll_len]; simp)) fun k v hk => ?_
  · rcases List.mem_append.1 hr with hr | hr
    · exact apply_all_right h hu r hr
    · exact h.ga u hu r hr
  · rw [List.length_append, applyAll_len]
    show (if (σ.us u).at_ < 0 then (σ.recs.length : Int) - (σ.us u).at_ else (σ.us u).at_) <= _
    split <;> omega
  · show -(if (σ.us u).at_ < 0 then (σ.recs.length : Int) - (σ.us u).at_ else (σ.us u).at_) <= 0
    split <;> omega
  · rw [List.length_append, applyAll_len]
    split at hk
    · cases hk
    · have := h.lr k v hk; omega
theorem Inv.store (h : Inv σ) (hu : u < 4) (f : Bool) : Inv (storeS u f σ) := by
  unfold storeS; split
  · exact h.stored hu
  · exact h
theorem Inv.storeE (h : Inv σ) (v : Int) (f : Bool) : Inv (storeES v f σ) := by
  unfold storeES; split
  · next hv => exact h.store (by simp [isU] at hv; omega) f
  · exact h
theorem Inv.leave (h : Inv σ) (hu : u < 4) : Inv (leaveS u σ) := by
  unfold leaveS; split
  · exact h
  · exact h.store hu false
theorem stored_ap (u : Nat) (σ : Dsk) : ((storedS u σ).us u).ap = [] /\ ((storedS u σ).us u).ch = [] := by simp [storedS, cleanS, Dsk.setU]
theorem leave_emp (h : leaveC u σ = 0) (hr : (σ.us u).rows = true) : ((leaveS u σ).us u).emp = true := by
  unfold leaveC at h
  unfold leaveS
  split
  · next he =>
    rcases he with he | he
    · rw [hr] at he; cases he
    · exact he
  · next he =>
    rw [if_neg he] at h
    rw [storeS, if_pos h]
    obtain ⟨a, b⟩ := stored_ap u σ
    simp [Usr.emp, a, b]
theorem leave_len (u : Nat) (σ : Dsk) : σ.recs.length <= (leaveS u σ).recs.length := by
  unfold leaveS storeS
  split
  · exact Nat.le_refl _
  · split
    · show _ <= (applyAll (σ.us u).ch σ.recs ++ (σ.us u).ap).length
      rw [List.length_append, applyAll_len]; omega
    · exact Nat.le_refl _
theorem leave_fail (h : leaveC u σ ≠ 0) : leaveS u σ = σ := by
  unfold leaveC at h
  unfold leaveS
  split
  · rfl
  · next he =>
    rw [if_neg he] at h
    rw [storeS, if_neg h]
theorem emp_ap {x : Usr} (h : x.emp = true) : x.ap = [] := by simp [Usr.emp] at h; exact h.2
theorem Inv.go (h : Inv σ) (v k : Int) : Inv (goS v k σ) := by
  unfold goS
  split
  · exact h
  · next hc =>
    have hc : goC v k σ = 0 := by simpa using hc
    unfold goC at hc
    split at hc
    · cases hc
    · next hv =>
      have hv : isU v = true := by simpa using hv
      have hu : v.toNat < 4 := by simp [isU] at hv; omega
      split at hc
      · cases hc
      · next hs =>
        generalize v.toNat = u at *
        have hin : (k < 0 -> -k <= (σ.us u).ap.length) /\ k <= σ.recs.length := by
          unfold seenR at hs
          by_cases hk : k < 0
          · rw [if_pos hk] at hs
            refine ⟨fun _ => ?_, by omega⟩
            by_cases e : (-k - 1).toNat < (σ.us u).ap.length
            · omega
            · rw [List.getElem?_eq_none (by omega)] at hs; exact absurd rfl hs
          · rw [if_neg hk] at hs
            refine ⟨fun e => absurd e hk, ?_⟩
            by_cases e : k < 1 ∨ k > σ.recs.length
            · rw [if_pos e] at hs; exact absurd rfl hs
            · omega
        simp only
        by_cases e : k = (σ.us u).at_
        · rw [if_pos e]
          rw [setU_put]
          refine h.chg hu h.gr (Nat.le_refl _) (h.ga _ hu) (h.gc _ hu) (h.cn _ hu) ?_ (fun h1 h2 => ?_) (.inl (Nat.le_refl _)) h.lr
          · have := h.at_ u hu
            rw [← e] at this; exact this
          · have := h.rw_ u hu h1 h2
            exact ⟨this.1, by show k = -1; rw [e]; exact this.2⟩
        · rw [if_neg e] at hc ⊢
          have h' := h.leave hu
          rw [setU_put]
          have hlen := leave_len u σ
          by_cases hr : (σ.us u).rows = true
          · have he := emp_ap (leave_emp hc hr)
            have hk : ¬ k < 0 := fun hk => by
              have h1 := hin.1 hk
              have hne : (σ.us u).ap ≠ [] := fun e => by rw [e] at h1; simp at h1; omega
              have h2 := h.rw_ u hu hr hne
              omega
            refine h'.chg hu h'.gr (Nat.le_refl _) (h'.ga _ hu) (h'.gc _ hu) (h'.cn _ hu) ⟨?_, ?_⟩ (fun _ e => absurd he e) (.inl (Nat.le_refl _)) h'.lr
            · show k <= _; omega
            · show -k <= _; omega
          · have hr : (σ.us u).rows = false := by simpa using hr
            have hl : leaveS u σ = σ := by rw [leaveS, if_pos (.inl hr)]
            rw [hl] at h' ⊢
            refine h'.chg hu h'.gr (Nat.le_refl _) (h'.ga _ hu) (h'.gc _ hu) (h'.cn _ hu) ⟨?_, ?_⟩ (fun h1 _ => ?_) (.inl (Nat.le_refl _)) h'.lr
            · show k <= _; exact hin.2
            · show -k <= _
              by_cases hk : k < 0
              · exact hin.1 hk
              · omega
            · have : (σ.us u).rows = true := h1
              rw [hr] at this; cases this
end Go.Proofs.YtcihcbfcgjepfaaGreatDoor
