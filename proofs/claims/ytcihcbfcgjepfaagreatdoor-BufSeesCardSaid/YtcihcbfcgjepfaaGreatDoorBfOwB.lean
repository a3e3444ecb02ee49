import Derived.Test.YtcihcbfcgjepfaaGreatDoorBfOwA
import Derived.Test.YtcihcbfcgjepfaaGreatDoorBfPrA
import Derived.Test.YtcihcbfcgjepfaaGreatDoorShSixteen
import Derived.Test.YtcihcbfcgjepfaaGreatDoorShTen
/- Table: what a value becomes in a field, the reference. No condition. -/
set_option maxRecDepth 100000
set_option linter.unusedVariables false
set_option linter.unusedSimpArgs false
namespace Go.Proofs.YtcihcbfcgjepfaaGreatDoor
open Go.Sh Go.RowKit Tryz
theorem zYV (l : List UInt8) (s : ByteArray) : bs l = s ↔ l = s.data.toList := by
 constructor
 ·intro h; rw [← h]
 ·intro h; rw [h]
theorem yVs (n : Int) (w : World) : Calls prog 146 #[.int .i64 n] w fun e w' => e = .returned (.bool (zWu n)) /\ Pu w w' := by
 refine yXQ _ w _ (Br.of (fun d => ?_) (fun d => ?_))
 ·exact ⟨by rw [zWu, decide_eq_true (show 0 <= n from zQn d)]; rfl, Pu.refl w⟩
 ·exact ⟨by rw [zWu, decide_eq_false (show ¬ 0 <= n from zQg d)]; rfl, Pu.refl w⟩
theorem yKw (f : Fld) (p : Int) (v : Val) (w : World) : Calls prog 96 #[yQ2 f, .int .i64 p, zZc v] w fun e w' => e = .returned (.bool (zQP f p v)) /\ Pu w w' := by
 refine yJy _ _ _ _ _ _ _ _ w _ ?_
 refine alB fun w1 hp1 hb1 => alB fun w2 hp2 hb2 => ?_
 have hp02 := hp1.trans hp2
 have b1 : ∀ {wz}, Pu w2 wz -> wz.heap[w.heap.size]? = some (.cells #[.string f.name, .int .i64 f.kind, .int .i64 f.width, .bool f.null] 38) := fun h => h.blk (hp2.blk hb1)
 have b2 : ∀ {wz}, Pu w2 wz -> wz.heap[w1.heap.size]? = some (.cells #[.int .i64 v.kind, .int .i64 v.n, .string v.s] 28) := fun h => h.blk hb2
 have q0 := b2 (Pu.refl w2)
 refine ⟨_, cl q0 0, _, cl q0 1, _, cl q0 2, (yQW v w2).mono ?_⟩
 rintro e w3 ⟨rfl, hp3⟩
 have hp03 := hp02.trans hp3
 have out : ∀ {wz : World} {b : Bool}, Pu w wz -> zQP f p v = b -> (Ending.returned (Value.bool b) = Ending.returned (Value.bool (zQP f p v)) /\ Pu w wz) := fun h1 h2 => ⟨by rw [h2], h1⟩
 refine ⟨_, rfl, Br.of (fun d => out hp03 (by unfold zQP; rw [if_pos (zQC d)])) (fun d => ?_)⟩
 have hv := zQw d
 have hv0 : ¬ zXh v ≠ 0 := by omega
 obtain ⟨hvs, hvn, hv4⟩ := zKb hv
 refine ⟨_, cl0 (b2 hp3), Br.of (fun d0 => ⟨_, cl (b1 hp3) 3, out hp03 (by unfold zQP; rw [if_neg hv0, if_pos (zQ6 d0)])⟩) (fun d0 => ⟨_, cl (b1 hp3) 1, Br.of (fun d1 => ?_) (fun d1 => ?_)⟩)⟩
 ·refine ⟨_, cl0 (b2 hp3), Br.of (fun d2 => ⟨_, cl (b2 hp3) 1, (yVs v.n w3).mono ?_⟩) (fun d2 => out hp03 ?_)⟩
  ·rintro e w4 ⟨rfl, hp4⟩
   exact ⟨_, rfl, out (hp03.trans hp4) (by unfold zQP; rw [if_neg hv0, if_neg (zQm d0), if_pos (zQ6 d1), decide_eq_true (zQ6 d2)]; rfl)⟩
  ·unfold zQP; rw [if_neg hv0, if_neg (zQm d0), if_pos (zQ6 d1), decide_eq_false (zQm d2)]; rfl
 have e0 : zQP f p v = if v.kind ≠ f.kind then false else if f.kind = 2 then decide (((zJE v.n).length : Int) <= f.width) else if f.kind = 4 then decide ((v.s.size : Int) <= f.width) && decide (zXZ v.s.data.toList = v.s.data.toList) && zX9 v.s.data.toList p else true := by
  unfold zQP; rw [if_neg hv0, if_neg (zQm d0), if_neg (zQm d1)]
 refine ⟨_, cl0 (b2 hp3), _, cl (b1 hp3) 1, Br.of (fun d2 => out hp03 (by rw [e0, if_pos (zQC d2)])) (fun d2 => ⟨_, cl (b1 hp3) 1, Br.of (fun d3 => ?_) (fun d3 => ⟨_, cl (b1 hp3) 1, Br.of (fun d4 => ?_) (fun d4 => out hp03 ?_)⟩)⟩)⟩
 ·have d2 := zQw d2
  have d3 := zQ6 d3
  have hn : zWU v.n := by rw [d2, d3] at hvn; simp [okN] at hvn; exact ⟨by omega, by omega⟩
  refine zQf fun w4 hp4 _ => ⟨fun u => Pu w4 u, Pu.refl _, v.n, fun u hu => cl (b2 ((hp3.trans hp4).trans hu)) 1, f.width, fun u hu => cl (b1 ((hp3.trans hp4).trans hu)) 2, (yJF hn w4).mono ?_⟩
  rintro e w5 ⟨rfl, hp5⟩
  refine ⟨_, rfl, hp5, out ((hp03.trans hp4).trans hp5) ?_⟩
  rw [e0, if_neg (by rw [d2]; simp), if_pos d3, zXC]
 ·have d2 := zQw d2
  have d3 := zQm d3
  have d4 := zQ6 d4
  have e1 : zQP f p v = (decide ((v.s.size : Int) <= f.width) && decide (zXZ v.s.data.toList = v.s.data.toList) && zX9 v.s.data.toList p) := by
   rw [e0, if_neg (by rw [d2]; simp), if_neg d3, if_pos d4]
  refine zQf fun w4 hp4 _ => ⟨fun u => Pu w4 u, Pu.refl _, v.s, fun u hu => cl (b2 ((hp3.trans hp4).trans hu)) 2, f.width, fun u hu => cl (b1 ((hp3.trans hp4).trans hu)) 2, Br.of (fun d5 => ?_) (fun d5 => out (hp03.trans hp4) ?_)⟩
  ·refine ⟨v.s, fun u hu => cl (b2 ((hp3.trans hp4).trans hu)) 2, v.s, fun u hu => cl (b2 ((hp3.trans hp4).trans hu)) 2, (yKc v.s (by omega) w4).mono ?_⟩
   rintro e w5 ⟨rfl, hp5⟩
   refine ⟨_, rfl, hp5, ?_⟩
   rw [zZh]
   have hbe : (bs (zXZ v.s.data.toList) = v.s) ↔ zXZ v.s.data.toList = v.s.data.toList := zYV _ _
   refine Br.of (fun d6 => ⟨v.s, fun u hu => cl (b2 ((hp3.trans hp4).trans hu)) 2, (zV1 v.s (by omega) p w5).mono ?_⟩) (fun d6 => out ((hp03.trans hp4).trans hp5) ?_)
   ·rintro e w6 ⟨rfl, hp6⟩
    refine ⟨_, rfl, out (((hp03.trans hp4).trans hp5).trans hp6) ?_⟩
    rw [e1, decide_eq_true (zQn d5), decide_eq_true (hbe.1 (zQn d6))]; rfl
   ·rw [e1, decide_eq_false (fun h => zQg d6 (hbe.2 h))]; simp
  ·rw [e1, decide_eq_false (zQg d5)]; rfl
 ·rw [e0, if_neg (by rw [zQw d2]; simp), if_neg (zQm d3), if_neg (zQm d4)]
theorem yKo (f : Fld) (p : Int) (v : Val) (hfB : zQ0 f = true) (hvs : v.s.size <= 140737488355328) (w : World) : Calls prog 46 #[yQ2 f, .int .i64 p, zZc v] w fun e w' =>
  e = .returned (.tuple #[zZc (zQJ f p v).1, .int .i64 (zQJ f p v).2]) /\ Pu w w' := by
 refine yJJ _ _ _ _ _ _ _ _ w _ ?_
 refine alB fun w1 hp1 hb1 => alB fun w2 hp2 hb2 => alB fun w3 hp3 hb3 => ?_
 have z1 : w1.heap.size <= w2.heap.size := hp2.size
 have z0 : w.heap.size <= w1.heap.size := hp1.size
 have hp03 : Pu w w3 := (hp1.trans hp2).trans hp3
 have out : ∀ {wz : World} (v' : Val) (k : Int) {c : Array Value}, Pu w wz -> wz.heap[w2.heap.size]? = some (.cells c 28) -> c.size = 3 -> zQJ f p v = (v', k) ->
   stA prog 28 (⟨w2.heap.size, 0, none⟩ : Addr) #[.int .i64 v'.kind, .int .i64 v'.n, .string v'.s] wz fun w' => ∃ n0 : Int, w'.cell? ((⟨w2.heap.size, 0, none⟩ : Addr).add 0) = some (.int .i64 n0) /\ ∃ n1 : Int, w'.cell? ((⟨w2.heap.size, 0, none⟩ : Addr).add 1) = some (.int .i64 n1) /\
    ∃ s2 : ByteArray, w'.cell? ((⟨w2.heap.size, 0, none⟩ : Addr).add 2) = some (.string s2) /\ (Ending.returned (.tuple #[.agg #[.int .i64 n0, .int .i64 n1, .string s2], .int .i64 k]) = .returned (.tuple #[zZc (zQJ f p v).1, .int .i64 (zQJ f p v).2]) /\ Pu w w') := fun {wz} v' k {c} h1 h2 h3 h4 =>
  retV (R := fun e w' => e = .returned (.tuple #[zZc (zQJ f p v).1, .int .i64 (zQJ f p v).2]) /\ Pu w w') v' k h2 h3 fun w' hf => ⟨by rw [h4], h1.andNew hf fun i hi => by have hi : i = w2.heap.size := hi; omega⟩
 have b1 : ∀ {wz}, Pu w3 wz -> wz.heap[w.heap.size]? = some (.cells #[.string f.name, .int .i64 f.kind, .int .i64 f.width, .bool f.null] 38) := fun h => h.blk (hp3.blk (hp2.blk hb1))
 have b2 : ∀ {wz}, Pu w3 wz -> wz.heap[w1.heap.size]? = some (.cells #[.int .i64 v.kind, .int .i64 v.n, .string v.s] 28) := fun h => h.blk (hp3.blk hb2)
 have b3 : ∀ {wz}, Pu w3 wz -> wz.heap[w2.heap.size]? = some (.cells #[.int .i64 0, .int .i64 0, .string ⟨#[]⟩] 28) := fun h => h.blk hb3
 have q1 := b1 (Pu.refl w3)
 have q2 := b2 (Pu.refl w3)
 have q3 := b3 (Pu.refl w3)
 refine ⟨_, cl0 q2, Br.of (fun d0 => ⟨_, cl q1 3, Br.of (fun d1 => out noV 7 hp03 q3 rfl ?_) (fun d1 => ⟨_, cl q2 0, _, cl q2 1, _, cl q2 2, out v 0 hp03 q3 rfl ?_⟩)⟩) (fun d0 => ⟨_, cl q1 1, ?_⟩)⟩
 ·unfold zQJ; rw [if_pos (zQ6 d0), show f.null = false by simpa using d1]; rfl
 ·unfold zQJ; rw [if_pos (zQ6 d0), show f.null = true by simpa using d1]; rfl
 have d0 := zQm d0
 -- behind the question for the kind
 have zQx : v.kind = (zQ3 f).kind -> ∀ (m : Int), f.kind = m ->
   Br (m == 4) (∃ s31 : ByteArray, w3.cell? ((⟨w1.heap.size, 0, none⟩ : Addr).add 2) = some (.string s31) /\ ∃ s33 : ByteArray, w3.cell? ((⟨w1.heap.size, 0, none⟩ : Addr).add 2) = some (.string s33) /\ ∃ n36 : Int, w3.cell? ((⟨w.heap.size, 0, none⟩ : Addr).add 2) = some (.int .i64 n36) /\
    ∃ n37 : Int, ∃ w10 : World, (Builtin.min_ #[3, 3] 3 #[.int .i64 ((s33.size : Nat) : Int), .int .i64 n36]).run prog w3 = .ok (.int .i64 n37) w10 /\ 0 <= n37 /\ n37.toNat <= s31.size /\ 0 <= n37.toNat /\
    Calls prog 99 #[.string (s31.extract 0 n37.toNat)] w10 fun e w11 => ∃ s39 : ByteArray, e = .returned (.string s39) /\ Calls prog 100 #[.string s39, .int .i64 p] w11 fun e w12 => ∃ b42 : Bool, e = .returned (.bool b42) /\
    Br (!b42) (stA prog 28 (⟨w2.heap.size, 0, none⟩ : Addr) #[.int .i64 0, .int .i64 0, .string (⟨#[]⟩ : ByteArray)] w12 fun w13 => ∃ nR0_0 : Int, w13.cell? ((⟨w2.heap.size, 0, none⟩ : Addr).add 0) = some (.int .i64 nR0_0) /\ ∃ nR0_1 : Int, w13.cell? ((⟨w2.heap.size, 0, none⟩ : Addr).add 1) = some (.int .i64 nR0_1) /\ ∃ sR0_2 : ByteArray, w13.cell? ((⟨w2.heap.size, 0, none⟩ : Addr).add 2) = some (.string sR0_2) /\
      (Ending.returned (.tuple #[.agg #[.int .i64 nR0_0, .int .i64 nR0_1, .string sR0_2], .int .i64 10]) = .returned (.tuple #[zZc (zQJ f p v).1, .int .i64 (zQJ f p v).2]) /\ Pu w w13)) (
     Calls prog 101 #[.string s39] w12 fun e w15 => ∃ n46_0 : Int, ∃ n46_1 : Int, ∃ s46_2 : ByteArray, e = .returned (.agg #[.int .i64 n46_0, .int .i64 n46_1, .string s46_2]) /\
     stA prog 28 (⟨w2.heap.size, 0, none⟩ : Addr) #[.int .i64 n46_0, .int .i64 n46_1, .string s46_2] w15 fun w16 => ∃ nR0_0 : Int, w16.cell? ((⟨w2.heap.size, 0, none⟩ : Addr).add 0) = some (.int .i64 nR0_0) /\ ∃ nR0_1 : Int, w16.cell? ((⟨w2.heap.size, 0, none⟩ : Addr).add 1) = some (.int .i64 nR0_1) /\ ∃ sR0_2 : ByteArray, w16.cell? ((⟨w2.heap.size, 0, none⟩ : Addr).add 2) = some (.string sR0_2) /\
      (Ending.returned (.tuple #[.agg #[.int .i64 nR0_0, .int .i64 nR0_1, .string sR0_2], .int .i64 0]) = .returned (.tuple #[zZc (zQJ f p v).1, .int .i64 (zQJ f p v).2]) /\ Pu w w16))) (
    ∃ s47_0 : ByteArray, w3.cell? ((⟨w.heap.size, 0, none⟩ : Addr).add 0) = some (.string s47_0) /\ ∃ n47_1 : Int, w3.cell? ((⟨w.heap.size, 0, none⟩ : Addr).add 1) = some (.int .i64 n47_1) /\ ∃ n47_2 : Int, w3.cell? ((⟨w.heap.size, 0, none⟩ : Addr).add 2) = some (.int .i64 n47_2) /\ ∃ b47_3 : Bool, w3.cell? ((⟨w.heap.size, 0, none⟩ : Addr).add 3) = some (.bool b47_3) /\
    ∃ n49_0 : Int, w3.cell? ((⟨w1.heap.size, 0, none⟩ : Addr).add 0) = some (.int .i64 n49_0) /\ ∃ n49_1 : Int, w3.cell? ((⟨w1.heap.size, 0, none⟩ : Addr).add 1) = some (.int .i64 n49_1) /\ ∃ s49_2 : ByteArray, w3.cell? ((⟨w1.heap.size, 0, none⟩ : Addr).add 2) = some (.string s49_2) /\
    Calls prog 96 #[.agg #[.string s47_0, .int .i64 n47_1, .int .i64 n47_2, .bool b47_3], .int .i64 p, .agg #[.int .i64 n49_0, .int .i64 n49_1, .string s49_2]] w3 fun e w18 => ∃ b50 : Bool, e = .returned (.bool b50) /\
    Br (!b50) (stA prog 28 (⟨w2.heap.size, 0, none⟩ : Addr) #[.int .i64 0, .int .i64 0, .string (⟨#[]⟩ : ByteArray)] w18 fun w13 => ∃ nR0_0 : Int, w13.cell? ((⟨w2.heap.size, 0, none⟩ : Addr).add 0) = some (.int .i64 nR0_0) /\ ∃ nR0_1 : Int, w13.cell? ((⟨w2.heap.size, 0, none⟩ : Addr).add 1) = some (.int .i64 nR0_1) /\ ∃ sR0_2 : ByteArray, w13.cell? ((⟨w2.heap.size, 0, none⟩ : Addr).add 2) = some (.string sR0_2) /\
      (Ending.returned (.tuple #[.agg #[.int .i64 nR0_0, .int .i64 nR0_1, .string sR0_2], .int .i64 10]) = .returned (.tuple #[zZc (zQJ f p v).1, .int .i64 (zQJ f p v).2]) /\ Pu w w13)) (
     ∃ n53_0 : Int, w18.cell? ((⟨w1.heap.size, 0, none⟩ : Addr).add 0) = some (.int .i64 n53_0) /\ ∃ n53_1 : Int, w18.cell? ((⟨w1.heap.size, 0, none⟩ : Addr).add 1) = some (.int .i64 n53_1) /\ ∃ s53_2 : ByteArray, w18.cell? ((⟨w1.heap.size, 0, none⟩ : Addr).add 2) = some (.string s53_2) /\
     stA prog 28 (⟨w2.heap.size, 0, none⟩ : Addr) #[.int .i64 n53_0, .int .i64 n53_1, .string s53_2] w18 fun w16 => ∃ nR0_0 : Int, w16.cell? ((⟨w2.heap.size, 0, none⟩ : Addr).add 0) = some (.int .i64 nR0_0) /\ ∃ nR0_1 : Int, w16.cell? ((⟨w2.heap.size, 0, none⟩ : Addr).add 1) = some (.int .i64 nR0_1) /\ ∃ sR0_2 : ByteArray, w16.cell? ((⟨w2.heap.size, 0, none⟩ : Addr).add 2) = some (.string sR0_2) /\
      (Ending.returned (.tuple #[.agg #[.int .i64 nR0_0, .int .i64 nR0_1, .string sR0_2], .int .i64 0]) = .returned (.tuple #[zZc (zQJ f p v).1, .int .i64 (zQJ f p v).2]) /\ Pu w w16))) := by
  rintro hk m rfl
  have hF : zQJ f p v = if f.kind = 4 then (if zX9 (zXZ (v.s.data.toList.take f.width.toNat)) p then (⟨4, 0, bs (zXZ (v.s.data.toList.take f.width.toNat))⟩, 0) else (noV, 10)) else if zQP f p v then (v, 0) else (noV, 10) := by
   unfold zQJ; rw [if_neg d0, if_neg (by rw [hk]; simp)]
  refine Br.of (fun d2 => ?_) (fun d2 => ?_)
  ·have d2 := zQ6 d2
   obtain ⟨wl, wh⟩ := zKU hfB d2
   rw [if_pos d2] at hF
   refine ⟨_, cl q2 2, _, cl q2 2, _, cl q1 2, _, w3, yWl _ _ _ _ _ _, by omega, by omega, by omega, (yKc _ (by have := zXl v.s 0 (min (v.s.size : Int) f.width).toNat; have := zXU (v.s.extract 0 (min (v.s.size : Int) f.width).toNat); simp at *; omega) w3).mono ?_⟩
   rintro e w9 ⟨rfl, hp9⟩
   have et : (v.s.extract 0 (min (v.s.size : Int) f.width).toNat).data.toList = v.s.data.toList.take f.width.toNat := by
    rw [zXl, List.drop_zero]; exact yX7 _ _ _ (by simp) (by omega)
   rw [et]
   have hbl : (bs (zXZ (v.s.data.toList.take f.width.toNat))).size <= 140737488355328 := by
    rw [zXC]; have := zVJ (v.s.data.toList.take f.width.toNat); have := List.length_take_le' f.width.toNat v.s.data.toList; rw [zXU] at this; omega
   generalize hg : zXZ (v.s.data.toList.take f.width.toNat) = B at *
   refine ⟨_, rfl, (zV1 _ hbl p w9).mono ?_⟩
   rintro e w10 ⟨rfl, hp10⟩
   rw [zJi]
   have hp310 := hp9.trans hp10
   refine ⟨_, rfl, Br.of (fun d3 => out noV 10 (hp03.trans hp310) (b3 hp310) rfl ?_) (fun d3 => (xZl (bs B) w10).mono ?_)⟩
   ·rw [hF, show zX9 B p = false by simpa using d3]; rfl
   ·rintro e w11 ⟨rfl, hp11⟩
    refine ⟨_, _, _, rfl, out ⟨4, 0, bs B⟩ 0 (hp03.trans (hp310.trans hp11)) (b3 (hp310.trans hp11)) rfl ?_⟩
    rw [hF, show zX9 B p = true by simpa using d3]; rfl
  ·have d2 := zQm d2
   rw [if_neg d2] at hF
   refine ⟨_, cl q1 0, _, cl q1 1, _, cl q1 2, _, cl q1 3, _, cl q2 0, _, cl q2 1, _, cl q2 2, (yKw f p v w3).mono ?_⟩
   rintro e w9 ⟨rfl, hp9⟩
   refine ⟨_, rfl, Br.of (fun d3 => out noV 10 (hp03.trans hp9) (b3 hp9) rfl ?_) (fun d3 => ⟨_, cl (b2 hp9) 0, _, cl (b2 hp9) 1, _, cl (b2 hp9) 2, out v 0 (hp03.trans hp9) (b3 hp9) rfl ?_⟩)⟩
   ·rw [hF, show zQP f p v = false by simpa using d3]; rfl
   ·rw [hF, show zQP f p v = true by simpa using d3]; rfl
 have six : v.kind ≠ (zQ3 f).kind -> zQJ f p v = (noV, 6) := fun h => by unfold zQJ; rw [if_neg d0, if_pos h]
 refine Br.of (fun d1 => ⟨_, cl0 q2, Br.of (fun d2 => out noV 6 hp03 q3 rfl (six ?_)) (fun d2 => ⟨_, cl q1 1, zQx ?_ _ rfl⟩)⟩) (fun d1 => ⟨_, cl0 q2, Br.of (fun d2 => out noV 6 hp03 q3 rfl (six ?_)) (fun d2 => ⟨_, cl q1 1, zQx ?_ _ rfl⟩)⟩)
 ·unfold zQ3; rw [if_pos (zQ6 d1)]; exact zQC d2
 ·unfold zQ3; rw [if_pos (zQ6 d1)]; exact zQw d2
 ·unfold zQ3; rw [if_neg (zQm d1)]; exact zQC d2
 ·unfold zQ3; rw [if_neg (zQm d1)]; exact zQw d2
theorem xXk (f : Fld) (p : Int) (v : Val) (w : World) : Calls prog 13 #[yQ2 f, .int .i64 p, zZc v] w fun e w' =>
  e = .returned (.tuple #[zZc (zZ9 f p v).1, .int .i64 (zZ9 f p v).2]) /\ Pu w w' := by
 refine yJL _ _ _ _ _ _ _ _ w _ ?_
 refine alB fun w1 hp1 hb1 => alB fun w2 hp2 hb2 => alB fun w3 hp3 hb3 => ?_
 have z1 : w1.heap.size <= w2.heap.size := hp2.size
 have z0 : w.heap.size <= w1.heap.size := hp1.size
 have hp03 : Pu w w3 := (hp1.trans hp2).trans hp3
 have out : ∀ {wz : World} (v' : Val) (k : Int) {c : Array Value}, Pu w wz -> wz.heap[w2.heap.size]? = some (.cells c 28) -> c.size = 3 -> zZ9 f p v = (v', k) ->
   stA prog 28 (⟨w2.heap.size, 0, none⟩ : Addr) #[.int .i64 v'.kind, .int .i64 v'.n, .string v'.s] wz fun w' => ∃ n0 : Int, w'.cell? ((⟨w2.heap.size, 0, none⟩ : Addr).add 0) = some (.int .i64 n0) /\ ∃ n1 : Int, w'.cell? ((⟨w2.heap.size, 0, none⟩ : Addr).add 1) = some (.int .i64 n1) /\
    ∃ s2 : ByteArray, w'.cell? ((⟨w2.heap.size, 0, none⟩ : Addr).add 2) = some (.string s2) /\ (Ending.returned (.tuple #[.agg #[.int .i64 n0, .int .i64 n1, .string s2], .int .i64 k]) = .returned (.tuple #[zZc (zZ9 f p v).1, .int .i64 (zZ9 f p v).2]) /\ Pu w w') := fun {wz} v' k {c} h1 h2 h3 h4 =>
  retV (R := fun e w' => e = .returned (.tuple #[zZc (zZ9 f p v).1, .int .i64 (zZ9 f p v).2]) /\ Pu w w') v' k h2 h3 fun w' hf => ⟨by rw [h4], h1.andNew hf fun i hi => by have hi : i = w2.heap.size := hi; omega⟩
 have b1 : ∀ {wz}, Pu w3 wz -> wz.heap[w.heap.size]? = some (.cells #[.string f.name, .int .i64 f.kind, .int .i64 f.width, .bool f.null] 38) := fun h => h.blk (hp3.blk (hp2.blk hb1))
 have b2 : ∀ {wz}, Pu w3 wz -> wz.heap[w1.heap.size]? = some (.cells #[.int .i64 v.kind, .int .i64 v.n, .string v.s] 28) := fun h => h.blk (hp3.blk hb2)
 have b3 : ∀ {wz}, Pu w3 wz -> wz.heap[w2.heap.size]? = some (.cells #[.int .i64 0, .int .i64 0, .string ⟨#[]⟩] 28) := fun h => h.blk hb3
 have q0 := b1 (Pu.refl w3)
 refine ⟨_, cl q0 0, _, cl q0 1, _, cl q0 2, _, cl q0 3, (zVy f w3).mono ?_⟩
 rintro e w4 ⟨rfl, hp4⟩
 refine ⟨_, rfl, Br.of (fun d => out noV 1 (hp03.trans hp4) (b3 hp4) rfl (zZB (by simp at d; simp [d]))) (fun d => (zYD p w4).mono ?_)⟩
 have hfB : zQ0 f = true := by simpa using d
 rintro e w5 ⟨rfl, hp5⟩
 have hp35 := hp4.trans hp5
 refine ⟨_, rfl, Br.of (fun d => out noV 1 (hp03.trans hp35) (b3 hp35) rfl (zZB (by simp at d; simp [d]))) (fun d => ?_)⟩
 have hpB : zXm p = true := by simpa using d
 have hB : (zQ0 f && zXm p) = true := by rw [hfB, hpB]; rfl
 refine ⟨_, cl (b2 hp35) 0, _, cl (b2 hp35) 1, _, cl (b2 hp35) 2, (yQW v w5).mono ?_⟩
 rintro e w6 ⟨rfl, hp6⟩
 have hp36 := hp35.trans hp6
 refine ⟨_, rfl, Br.of (fun d => out noV (zXh v) (hp03.trans hp36) (b3 hp36) rfl (zJk hB (zQC d))) (fun d => ?_)⟩
 have hv := zQw d
 refine ⟨_, cl (b1 hp36) 0, _, cl (b1 hp36) 1, _, cl (b1 hp36) 2, _, cl (b1 hp36) 3, _, cl (b2 hp36) 0, _, cl (b2 hp36) 1, _, cl (b2 hp36) 2, (yKo f p v hfB (by have := (zKb hv).1; omega) w6).mono ?_⟩
 rintro e w7 ⟨rfl, hp7⟩
 exact ⟨_, _, _, _, rfl, out _ _ (hp03.trans (hp36.trans hp7)) (b3 (hp36.trans hp7)) rfl (zZH hB hv)⟩
end Go.Proofs.YtcihcbfcgjepfaaGreatDoor
/- Table: rows of fields: which are right, and how wide they are. No condition. -/
namespace Go.Proofs.YtcihcbfcgjepfaaGreatDoor
open Go.Sh Go.RowKit Tryz
theorem zJy {α : Type} [DecidableEq α] {l : List α} {x : α} : (l ++ [x]).Nodup ↔ l.Nodup /\ x ∉ l := by
 rw [List.nodup_append]
 constructor
 ·rintro ⟨h1, _, h3⟩; exact ⟨h1, fun hx => h3 x hx x (by simp) rfl⟩
 ·rintro ⟨h1, h2⟩; exact ⟨h1, by simp, fun a ha b hb e => by simp at hb; subst hb; subst e; exact h2 ha⟩
theorem yXv (l : List Fld) : (zW8 l : Int) <= l.length + 1 := by
 unfold zW8
 have := List.length_filter_le (·.null) l
 omega
theorem yJb {l : List Fld} {k : Nat} {f : Fld} (h : l[k]? = some f) : ((l.take (k + 1)).filter (·.null)).length = ((l.take k).filter (·.null)).length + (if f.null then 1 else 0) := by
 rw [zQO h, List.filter_append, List.length_append]
 cases hx : f.null <;> simp [hx]
theorem zW0 {l : List Fld} {k : Nat} {f : Fld} (h : l[k]? = some f) : ((l.take (k + 1)).filter (·.null)).length = if f.null then ((l.take k).filter (·.null)).length + 1 else ((l.take k).filter (·.null)).length := by
 rw [yJb h]; cases f.null <;> rfl
theorem yQL {w : World} {s : SV} {l : List Fld} (h : zXI w s l) : Calls prog 176 #[.slice s.a s.len s.cap] w fun e w' => e = .returned (.int .i64 (zW8 l : Nat)) /\ Pu w w' := by
 refine yZg _ w _ ?_
 have hlen := h.len
 have hlim := h.lim
 refine zQz l.length (fun k t w' => t.2 = (k : Int) /\ t.1 = (((l.take k).filter (·.null)).length : Nat) /\ Pu w w') ⟨rfl, rfl, Pu.refl _⟩ ?_
 rintro k J ⟨t1, t2⟩ w2 hk ⟨ht2, ht1, hp⟩ hJ
 obtain rfl : t2 = (k : Int) := ht2
 obtain rfl : t1 = (((l.take k).filter (·.null)).length : Nat) := ht1
 have hle := List.length_filter_le (·.null) (l.take k)
 have hle2 := List.length_take_le k l
 dsimp only
 refine Br.of (fun d => ?_) (fun d => ?_)
 ·have hk2 : k < l.length := by have := zQn d; omega
  obtain ⟨f, hf⟩ := zXg hk2
  obtain ⟨a, ha, hi, _, _, _, c0, c1, c2, c3⟩ := zZp (h.pu hp) hf
  refine ⟨a, ha, by omega, by omega, _, c0, _, c1, _, c2, _, c3, xQn rfl s23.symm rfl fun w4 hp4 hs4 hb4 => ⟨_, cl hb4 3, ?_⟩⟩
  have e := zW0 hf
  rw [zQc (n := (k : Int) + 1) (by omega) (by omega)]
  refine Br.of (fun d1 => hJ _ _ hk2 ⟨by dsimp only; omega, ?_, hp.trans hp4⟩) (fun d1 => hJ _ _ hk2 ⟨by dsimp only; omega, ?_, hp.trans hp4⟩)
  ·rw [if_pos d1] at e; dsimp only; rw [e, zQc (by omega) (by omega)]; omega
  ·rw [if_neg (by rw [d1]; simp)] at e; dsimp only; rw [e]
 ·have hk2 : k = l.length := by have := zQg d; omega
  subst hk2
  rw [List.take_length] at *
  refine ⟨rfl, by omega, ?_, hp⟩
  rw [zQc (n := ((l.filter (·.null)).length : Int) + 7) (by omega) (by omega), Int.tdiv_eq_ediv_of_nonneg (by omega), zQc (by omega) (by omega)]
  unfold zW8; congr 2
theorem yVN {w : World} {s : SV} {l : List Fld} (h : zXI w s l) : Calls prog 145 #[.slice s.a s.len s.cap] w fun e w' => e = .returned (.int .i64 (zW8 l : Nat)) /\ Pu w w' := by
 refine yZa _ w _ ?_
 have hlen := h.len
 have hlim := h.lim
 refine zQz l.length (fun k t w' => t.2 = (k : Int) /\ t.1 = (((l.take k).filter (·.null)).length : Nat) /\ Pu w w') ⟨rfl, rfl, Pu.refl _⟩ ?_
 rintro k J ⟨t1, t2⟩ w2 hk ⟨ht2, ht1, hp⟩ hJ
 obtain rfl : t2 = (k : Int) := ht2
 obtain rfl : t1 = (((l.take k).filter (·.null)).length : Nat) := ht1
 have hle := List.length_filter_le (·.null) (l.take k)
 have hle2 := List.length_take_le k l
 dsimp only
 refine Br.of (fun d => ?_) (fun d => ?_)
 ·have hk2 : k < l.length := by have := zQn d; omega
  obtain ⟨f, hf⟩ := zXg hk2
  obtain ⟨a, ha, hi, _, _, _, c0, c1, c2, c3⟩ := zZp (h.pu hp) hf
  refine ⟨a, ha, by omega, by omega, _, c3, ?_⟩
  have e := zW0 hf
  rw [zQc (n := (k : Int) + 1) (by omega) (by omega)]
  refine Br.of (fun d1 => hJ _ _ hk2 ⟨by dsimp only; omega, ?_, hp⟩) (fun d1 => hJ _ _ hk2 ⟨by dsimp only; omega, ?_, hp⟩)
  ·rw [if_pos d1] at e; dsimp only; rw [e, zQc (by omega) (by omega)]; omega
  ·rw [if_neg (by rw [d1]; simp)] at e; dsimp only; rw [e]
 ·have hk2 : k = l.length := by have := zQg d; omega
  subst hk2
  rw [List.take_length] at *
  refine ⟨rfl, by omega, ?_, hp⟩
  rw [zQc (n := ((l.filter (·.null)).length : Int) + 7) (by omega) (by omega), Int.tdiv_eq_ediv_of_nonneg (by omega), zQc (by omega) (by omega)]
  unfold zW8; congr 2
def WOk (l : List Fld) : Prop := ∀ f ∈ l, 0 <= f.width /\ f.width <= 254
theorem yQ5 {f : Fld} (h : zQ0 f = true) : 1 <= f.width /\ f.width <= 254 := by
 unfold zQ0 zKN at h
 simp only [Bool.and_eq_true] at h
 have h := h.2
 split at h
 ·simp at h; omega
 ·split at h
  ·simp at h; omega
  ·split at h
   ·simp at h; omega
   ·split at h
    ·simp at h; omega
    ·split at h
     ·simp at h; omega
     ·simp at h
theorem WOk.of {l : List Fld} (h : l.all zQ0 = true) : WOk l := fun f hf => by have := yQ5 (List.all_eq_true.1 h f hf); omega
theorem yQS {l : List Fld} {k : Nat} {f : Fld} (h : l[k]? = some f) : ((l.take (k + 1)).map (·.width)).sum = ((l.take k).map (·.width)).sum + f.width := by
 rw [zQO h, List.map_append, List.sum_append]; simp
theorem yYW {l : List Fld} (h : WOk l) : 0 <= (l.map (·.width)).sum /\ (l.map (·.width)).sum <= 254 * l.length := by
 induction l with
 | nil => simp
 | cons f l ih =>
  have h1 := h f (by simp)
  have h2 := ih fun g hg => h g (by simp [hg])
  simp only [List.map_cons, List.sum_cons, List.length_cons]; omega
theorem WOk.take {l : List Fld} (h : WOk l) (k : Nat) : WOk (l.take k) := fun f hf => h f (List.mem_of_mem_take hf)
theorem yVj {w : World} {s : SV} {l : List Fld} (h : zXI w s l) (hw : WOk l) : Calls prog 144 #[.slice s.a s.len s.cap] w fun e w' => e = .returned (.int .i64 (wide l)) /\ Pu w w' := by
 refine yZI _ w _ ((yQL h).mono ?_)
 rintro e w1 ⟨rfl, hp1⟩
 have hlen := h.len
 have hlim := h.lim
 have hn := yXv l
 refine ⟨_, rfl, ?_⟩
 rw [zQc (by omega) (by omega)]
 refine zQz l.length (fun k t w' => t.2 = (k : Int) /\ t.1 = 1 + ((zW8 l : Nat) : Int) + ((l.take k).map (·.width)).sum /\ Pu w w') ⟨rfl, by simp, hp1⟩ ?_
 rintro k J ⟨t1, t2⟩ w2 hk ⟨ht2, ht1, hp⟩ hJ
 obtain rfl : t2 = (k : Int) := ht2
 obtain rfl : t1 = 1 + ((zW8 l : Nat) : Int) + ((l.take k).map (·.width)).sum := ht1
 have hs := yYW (hw.take k)
 have hle2 := List.length_take_le k l
 dsimp only
 refine Br.of (fun d => ?_) (fun d => ?_)
 ·have hk2 : k < l.length := by have := zQn d; omega
  obtain ⟨f, hf⟩ := zXg hk2
  have hwf := hw f (List.mem_of_getElem? hf)
  obtain ⟨a, ha, hi, _, _, _, c0, c1, c2, c3⟩ := zZp (h.pu hp) hf
  refine ⟨a, ha, by omega, by omega, _, c0, _, c1, _, c2, _, c3, xQn rfl s23.symm rfl fun w4 hp4 hs4 hb4 => ⟨_, cl hb4 2, ?_⟩⟩
  rw [zQc (n := (k : Int) + 1) (by omega) (by omega), zQc (by omega) (by omega)]
  refine hJ _ _ hk2 ⟨by dsimp only; omega, ?_, hp.trans hp4⟩
  dsimp only; rw [yQS hf]; omega
 ·have hk2 : k = l.length := by have := zQg d; omega
  subst hk2
  rw [List.take_length]
  exact ⟨rfl, hp⟩
theorem xXX {w : World} {s : SV} {l : List Fld} (h : zXI w s l) (hw : WOk l) : Calls prog 95 #[.slice s.a s.len s.cap] w fun e w' => e = .returned (.int .i64 (wide l)) /\ Pu w w' := by
 refine yJu _ w _ ((yVN h).mono ?_)
 rintro e w1 ⟨rfl, hp1⟩
 have hlen := h.len
 have hlim := h.lim
 have hn := yXv l
 refine ⟨_, rfl, ?_⟩
 rw [zQc (by omega) (by omega)]
 refine zQz l.length (fun k t w' => t.2 = (k : Int) /\ t.1 = 1 + ((zW8 l : Nat) : Int) + ((l.take k).map (·.width)).sum /\ Pu w w') ⟨rfl, by simp, hp1⟩ ?_
 rintro k J ⟨t1, t2⟩ w2 hk ⟨ht2, ht1, hp⟩ hJ
 obtain rfl : t2 = (k : Int) := ht2
 obtain rfl : t1 = 1 + ((zW8 l : Nat) : Int) + ((l.take k).map (·.width)).sum := ht1
 have hs := yYW (hw.take k)
 have hle2 := List.length_take_le k l
 dsimp only
 refine Br.of (fun d => ?_) (fun d => ?_)
 ·have hk2 : k < l.length := by have := zQn d; omega
  obtain ⟨f, hf⟩ := zXg hk2
  have hwf := hw f (List.mem_of_getElem? hf)
  obtain ⟨a, ha, hi, _, _, _, c0, c1, c2, c3⟩ := zZp (h.pu hp) hf
  refine ⟨a, ha, by omega, by omega, _, c2, ?_⟩
  rw [zQc (n := (k : Int) + 1) (by omega) (by omega), zQc (by omega) (by omega)]
  refine hJ _ _ hk2 ⟨by dsimp only; omega, ?_, hp⟩
  dsimp only; rw [yQS hf]; omega
 ·have hk2 : k = l.length := by have := zQg d; omega
  subst hk2
  rw [List.take_length]
  exact ⟨rfl, hp⟩
def yXx (l : List Fld) (g : Nat) (cap : Array Value) (p : Fld -> Bool) (w0 : World) : Prop := zXF prog g = true /\ ∀ f ∈ l, ∀ w, Pu w0 w -> Calls prog g (#[yQ2 f] ++ cap) w fun e w' => e = .returned (.bool (p f)) /\ Pu w w'
theorem zKF {p : Fld -> Bool} {l : List Fld} {k : Nat} (h : ∀ f ∈ l.take k, p f = false) {f : Fld} (hf : l[k]? = some f) (hp : p f = true) : l.findIdx? p = some k := by
 have hk : k < l.length := (List.getElem?_eq_some_iff.1 hf).1
 rw [List.findIdx?_eq_some_iff_getElem]
 refine ⟨hk, ?_, fun j hj => ?_⟩
 ·rw [List.getElem?_eq_getElem hk] at hf; rw [Option.some.inj hf]; exact hp
 ·have := h l[j] (by rw [List.mem_take_iff_getElem]; exact ⟨j, by omega, rfl⟩)
  simpa using this
theorem zW4 {w : World} {s : SV} {l : List Fld} (h : zXI w s l) {g : Nat} {cap : Array Value} {p : Fld -> Bool} (hg : yXx l g cap p w) : Calls prog 104 #[.slice s.a s.len s.cap, .func (.func g) #[] cap] w
  fun e w' => e = .returned (.int .i64 (match l.findIdx? p with | some k => (k : Int) | none => -1)) /\ Pu w w' := by
 refine yXW _ _ w _ ?_
 have hlen := h.len
 have hlim := h.lim
 refine zQz l.length (fun k t w' => t = (k : Int) /\ (∀ f ∈ l.take k, p f = false) /\ Pu w w') ⟨rfl, by simp, Pu.refl _⟩ ?_
 rintro k J t w2 hk ⟨ht, hno, hp⟩ hJ
 obtain rfl : t = (k : Int) := ht
 refine Br.of (fun d => ?_) (fun d => ?_)
 ·have hk2 : k < l.length := by have := zQn d; omega
  obtain ⟨f, hf⟩ := zXg hk2
  obtain ⟨a, ha, hi, _, _, _, c0, c1, c2, c3⟩ := zZp (h.pu hp) hf
  refine ⟨a, ha, by omega, by omega, _, c0, _, c1, _, c2, _, c3, hg.1, ?_⟩
  have e1 : ((#[] : Array Value).toList ++ (([yQ2 f] : List Value) ++ cap.toList)).toArray = #[yQ2 f] ++ cap := by
   apply Array.ext'; simp
  rw [e1]
  refine (hg.2 f (List.mem_of_getElem? hf) w2 hp).mono ?_
  rintro e w3 ⟨rfl, hp3⟩
  refine ⟨_, rfl, Br.of (fun d1 => ⟨by rw [zKF hno hf d1], hp.trans hp3⟩) (fun d1 => ?_)⟩
  rw [zQc (by omega) (by omega)]
  refine hJ _ _ hk2 ⟨by omega, fun f' hf' => ?_, hp.trans hp3⟩
  rw [zQO hf, List.mem_append, List.mem_singleton] at hf'
  rcases hf' with hf' | rfl
  ·exact hno f' hf'
  ·exact d1
 ·have hk2 : k = l.length := by have := zQg d; omega
  subst hk2
  rw [List.take_length] at hno
  have : l.findIdx? p = none := by rw [List.findIdx?_eq_none_iff]; exact fun x hx => by rw [hno x hx]
  exact ⟨by rw [this], hp⟩
theorem zWP {w : World} {s : SV} {l : List Fld} (h : zXI w s l) {g : Nat} {cap : Array Value} {p : Fld -> Bool} (hg : yXx l g cap p w) : Calls prog 142 #[.slice s.a s.len s.cap, .func (.func g) #[] cap] w
  fun e w' => e = .returned (.bool (l.any p)) /\ Pu w w' := by
 refine yZk _ _ w _ ((zW4 h hg).mono ?_)
 rintro e w2 ⟨rfl, hp⟩
 refine ⟨_, rfl, ?_, hp⟩
 cases hx : l.findIdx? p with
 | none =>
  rw [List.findIdx?_eq_none_iff] at hx
  have : l.any p = false := by rw [List.any_eq_false]; exact fun x hx' => by rw [hx x hx']; simp
  rw [this]; rfl
 | some k =>
  rw [List.findIdx?_eq_some_iff_getElem] at hx
  obtain ⟨h1, h2, _⟩ := hx
  have : l.any p = true := List.any_eq_true.2 ⟨_, List.getElem_mem h1, h2⟩
  rw [this]
  dsimp only
  rw [decide_eq_true (by omega)]
theorem yZj (f : Fld) (hs : f.name.size <= 140737488355328) (w : World) : Calls prog 143 #[yQ2 f] w fun e w' => e = .returned (.bool (!zQ0 f)) /\ Pu w w' := by
 refine yZM _ _ _ _ w _ (alB fun w1 hp1 hb1 => ⟨_, cl hb1 0, _, cl hb1 1, _, cl hb1 2, _, cl hb1 3, (zYQ f hs w1).mono ?_⟩)
 rintro e w2 ⟨rfl, hp2⟩
 exact ⟨_, rfl, rfl, hp1.trans hp2⟩
theorem u88 : prog.underlying 177 = some (.map 9 4) := by kernel_rfl
abbrev strK (s : ByteArray) : Value := .string s
abbrev xZq (b : Bool) : Value := .bool b
theorem keysS : Keys prog 9 strK := yYb (by kernel_rfl)
theorem z4 (w : World) : (zeroValue 4).run prog w = .ok (.bool false) w := Tryz.zeroValue4 w
def zVR (l : List Fld) : List (ByteArray × Bool) := l.map fun f => (f.name, true)
theorem zVV (l : List Fld) : (zVR l).map Prod.fst = l.map (·.name) := by simp [zVR]
noncomputable instance memDec (x : ByteArray) (l : List ByteArray) : Decidable (x ∈ l) := Classical.propDecidable _
theorem yWW (l : List Fld) (x : ByteArray) : (AL.get (zVR l) x).elim (.bool false) xZq = .bool (decide (x ∈ l.map (·.name))) := by
 by_cases h : x ∈ l.map (·.name)
 ·rw [decide_eq_true h]
  cases hg : AL.get (zVR l) x with
  | none => rw [AL.get_none, zVV] at hg; exact absurd h hg
  | some v =>
   have := AL.get_mem hg
   simp only [zVR, List.mem_map] at this
   obtain ⟨f, _, he⟩ := this
   cases he; rfl
 ·rw [decide_eq_false h, (AL.get_none).2 (by rw [zVV]; exact h)]; rfl
theorem zKG : zQV [] = 1 := by unfold zQV; rw [if_pos (.inl rfl)]
theorem zVh {l : List Fld} (h : l.all zQ0 = false) : zQV l = 1 := by unfold zQV; rw [if_pos (.inr h)]
theorem zWX {l : List Fld} (h0 : l ≠ []) (h : l.all zQ0 = true) (h2 : ¬ (l.map (·.name)).Nodup) : zQV l = 5 := by unfold zQV; rw [if_neg (by simp [h0, h]), if_pos h2]
theorem zWS {l : List Fld} (h0 : l ≠ []) (h : l.all zQ0 = true) (h2 : (l.map (·.name)).Nodup) : zQV l = if 16 < l.length ∨ 2000 < wide l then 3 else 0 := by unfold zQV; rw [if_neg (by simp [h0, h]), if_neg (by simp [h2])]
theorem zZ6 {l : List Fld} {k : Nat} {f : Fld} (h : l[k]? = some f) : (l.take (k + 1)).map (·.name) = (l.take k).map (·.name) ++ [f.name] := by
 rw [zQO h, List.map_append]; rfl
theorem zKd {l : List Fld} {k : Nat} (h : ¬ ((l.take k).map (·.name)).Nodup) : ¬ (l.map (·.name)).Nodup := fun hn => h (by
 rw [List.map_take]; exact hn.sublist (List.take_sublist _ _))
theorem zKh {w : World} {s : SV} {l : List Fld} (h : zXI w s l) (hl : Lim.ok l) : Calls prog 93 #[.slice s.a s.len s.cap] w fun e w' => e = .returned (.int .i64 (zQV l)) /\ Pu w w' := by
 refine yKH _ w _ ?_
 have hlen := h.len
 have hlim := h.lim
 have nm : ∀ f ∈ l, f.name.size <= 140737488355328 := fun f hf => hl f hf
 refine Br.of (fun d => ?_) (fun d => ?_)
 ·have : l = [] := List.length_eq_zero_iff.1 (by have := zQ6 d; omega)
  subst this; exact ⟨by rw [zKG], Pu.refl _⟩
 have h0 : l ≠ [] := fun e => by subst e; exact zQm d (by rw [hlen]; rfl)
 have tells : yXx l 143 #[] (fun f => !zQ0 f) w := ⟨by kernel_rfl, fun f hf w2 _ => yZj f (nm f hf) w2⟩
 refine (zWP h tells).mono ?_
 rintro e w1 ⟨rfl, hp1⟩
 have hany : l.any (fun f => !zQ0 f) = !l.all zQ0 := by rw [List.all_eq_not_any_not]; simp
 refine ⟨_, rfl, ?_⟩
 rw [hany]
 refine Br.of (fun d1 => ⟨by rw [zVh (by simpa using d1)], hp1⟩) (fun d1 => ?_)
 have hall : l.all zQ0 = true := by simpa using d1
 refine zX7 fun w2 hw2 => ?_
 have hp2 : Pu w1 w2 := by rw [hw2]; exact Pu.alloc w1 _
 have hm2 : zQ8 w2 strK xZq w1.heap.size ([] : List (ByteArray × Bool)) := by rw [hw2]; exact zQ8.new w1 _ _
 have z1 := hp1.size
 refine zQz l.length (fun k t w' => t = (k : Int) /\ zQ8 w' strK xZq w1.heap.size (zVR (l.take k)) /\ ((l.take k).map (·.name)).Nodup /\ Pu w w') ⟨rfl, hm2, by simp, hp1.trans hp2⟩ ?_
 rintro k J t w3 hk ⟨ht, hm, hnd, hp⟩ hJ
 obtain rfl : t = (k : Int) := ht
 refine Br.of (fun d2 => ?_) (fun d2 => ?_)
 ·have hk2 : k < l.length := by have := zQn d2; omega
  obtain ⟨f, hf⟩ := zXg hk2
  obtain ⟨a, ha, hi, _, _, _, c0, c1, c2, c3⟩ := zZp (h.pu hp) hf
  refine ⟨a, ha, by omega, by omega, _, c0, _, c1, _, c2, _, c3, xQn rfl s23.symm rfl fun w4 hp4 hs4 hb4 => ⟨_, cl0 hb4, decide (f.name ∈ (l.take k).map (·.name)), w4, ?_, ?_⟩⟩
  ·have := (hm.pu hp4).look keysS u88 (z4 w4) f.name false
   rw [yWW] at this; exact this
  refine Br.of (fun d3 => ⟨?_, hp.trans hp4⟩) (fun d3 => ⟨_, cl0 hb4, ?_⟩)
  ·rw [zWX h0 hall (zKd (k := k + 1) (by rw [zZ6 hf, zJy]; exact fun h => h.2 (zQn d3)))]
  ·obtain ⟨w5, e5, h5, f5, _⟩ := (hm.pu hp4).upd keysS u88 f.name true
   refine ⟨w5, e5, ?_⟩
   rw [zQc (by omega) (by omega)]
   have hput : AL.put (zVR (l.take k)) f.name true = zVR (l.take (k + 1)) := by
    rw [AL.put_new ((AL.get_none).2 (by rw [zVV]; exact zQg d3))]
    simp only [zVR]
    rw [zQO hf, List.map_append]; rfl
   rw [hput] at h5
   refine hJ _ _ hk2 ⟨by omega, h5, by rw [zZ6 hf, zJy]; exact ⟨hnd, zQg d3⟩, (hp.trans hp4).andNew f5 fun i hi => by have hi : i = w1.heap.size := hi; omega⟩
 ·have hk2 : k = l.length := by have := zQg d2; omega
  subst hk2
  rw [List.take_length] at hnd
  have he := zWS h0 hall hnd
  refine Br.of (fun d3 => ⟨by rw [he, if_pos (.inl (by have := zQn d3; omega))], hp⟩) (fun d3 => (yVj (h.pu hp) (WOk.of hall)).mono ?_)
  rintro e w4 ⟨rfl, hp4⟩
  refine ⟨_, rfl, Br.of (fun d4 => ⟨by rw [he, if_pos (.inr (zQn d4))], hp.trans hp4⟩) (fun d4 => ⟨by rw [he, if_neg (by have := zQg d4; have := zQg d3; omega)], hp.trans hp4⟩)⟩
theorem zWO {w : World} {s : SV} {l : List Fld} (h : zXI w s l) : Calls prog 42 #[.slice s.a s.len s.cap] w fun e w' => e = .returned (.int .i64 (zQV l)) /\ Pu w w' := by
 refine yKn _ w _ ?_
 have hlen := h.len
 have hlim := h.lim
 refine Br.of (fun d => ?_) (fun d => ?_)
 ·have : l = [] := List.length_eq_zero_iff.1 (by have := zQ6 d; omega)
  subst this; exact ⟨by rw [zKG], Pu.refl _⟩
 have h0 : l ≠ [] := fun e => by subst e; exact zQm d (by rw [hlen]; rfl)
 refine zQz l.length (fun k t w' => t = (k : Int) /\ (l.take k).all zQ0 = true /\ Pu w w') ⟨rfl, rfl, Pu.refl _⟩ ?_
 rintro k J t w2 hk ⟨ht, hal, hp⟩ hJ
 obtain rfl : t = (k : Int) := ht
 refine Br.of (fun d1 => ?_) (fun d1 => ?_)
 ·have hk2 : k < l.length := by have := zQn d1; omega
  obtain ⟨f, hf⟩ := zXg hk2
  obtain ⟨a, ha, hi, _, _, _, c0, c1, c2, c3⟩ := zZp (h.pu hp) hf
  refine ⟨a, ha, by omega, by omega, _, c0, _, c1, _, c2, _, c3, (zVy f w2).mono ?_⟩
  rintro e w3 ⟨rfl, hp3⟩
  refine ⟨_, rfl, Br.of (fun d2 => ⟨?_, hp.trans hp3⟩) (fun d2 => ?_)⟩
  ·rw [zVh (by rw [List.all_eq_false]; exact ⟨f, List.mem_of_getElem? hf, by simpa using d2⟩)]
  ·rw [zQc (by omega) (by omega)]
   exact hJ _ _ hk2 ⟨by omega, by rw [zZI _ hf, hal, show zQ0 f = true by simpa using d2]; rfl, hp.trans hp3⟩
 have hk2 : k = l.length := by have := zQg d1; omega
 subst hk2
 rw [List.take_length] at hal
 clear hJ J d1
 refine zQz l.length (fun k t w' => t = (k : Int) /\ ((l.take k).map (·.name)).Nodup /\ Pu w w') ⟨rfl, by simp, hp⟩ ?_
 rintro k J t w3 hk ⟨ht, hnd, hp⟩ hJ
 obtain rfl : t = (k : Int) := ht
 refine Br.of (fun d1 => ?_) (fun d1 => ?_)
 ·have hk2 : k < l.length := by have := zQn d1; omega
  obtain ⟨f, hf⟩ := zXg hk2
  refine zQz k (fun j t w' => t = (j : Int) /\ f.name ∉ (l.take j).map (·.name) /\ Pu w w') ⟨rfl, by simp, hp⟩ ?_
  rintro j J2 t w4 hj ⟨ht, hno, hp4⟩ hJ2
  obtain rfl : t = (j : Int) := ht
  refine Br.of (fun d2 => ?_) (fun d2 => ?_)
  ·have hj2 : j < k := by have := zQn d2; omega
   obtain ⟨g, hg⟩ := zXg (show j < l.length by omega)
   refine zQf fun w5 hp5 _ => ?_
   obtain ⟨a, ha, hi, _, _, c, c0, c1, c2, c3⟩ := zZp (h.pu (hp4.trans hp5)) hf
   obtain ⟨a', ha', hi', _, _, c', c0', c1', c2', c3'⟩ := zZp (h.pu (hp4.trans hp5)) hg
   refine ⟨a, ha, by omega, by omega, _, c, a', ha', by omega, by omega, _, c', ?_⟩
   rw [zZh]
   refine Br.of (fun d3 => ⟨?_, hp4.trans hp5⟩) (fun d3 => ?_)
   ·rw [zWX h0 hal (zKd (k := k + 1) (by
     rw [zZ6 hf, zJy]
     refine fun h => h.2 ?_
     rw [zQn d3]
     exact List.mem_map.2 ⟨g, by rw [List.mem_take_iff_getElem]; exact ⟨j, by omega, by rw [List.getElem?_eq_getElem (by omega)] at hg; exact Option.some.inj hg⟩, rfl⟩))]
   ·rw [zQc (by omega) (by omega)]
    refine hJ2 _ _ hj2 ⟨by omega, ?_, hp4.trans hp5⟩
    rw [zZ6 hg, List.mem_append, List.mem_singleton]
    exact fun h => h.elim hno (zQg d3)
  ·have hj2 : j = k := by have := zQg d2; omega
   subst hj2
   show J (IntKind.i64.wrap ((j : Int) + 1)) w4
   rw [zQc (by omega) (by omega)]
   exact hJ _ _ hk2 ⟨by omega, by rw [zZ6 hf, zJy]; exact ⟨hnd, hno⟩, hp4⟩
 ·have hk2 : k = l.length := by have := zQg d1; omega
  subst hk2
  rw [List.take_length] at hnd
  have he := zWS h0 hal hnd
  refine Br.of (fun d3 => ⟨by rw [he, if_pos (.inl (by have := zQn d3; omega))], hp⟩) (fun d3 => (xXX (h.pu hp) (WOk.of hal)).mono ?_)
  rintro e w4 ⟨rfl, hp4⟩
  refine ⟨_, rfl, Br.of (fun d4 => ⟨by rw [he, if_pos (.inr (zQn d4))], hp.trans hp4⟩) (fun d4 => ⟨by rw [he, if_neg (by have := zQg d4; have := zQg d3; omega)], hp.trans hp4⟩)⟩
end Go.Proofs.YtcihcbfcgjepfaaGreatDoor
/- Table: which tables are right. No condition. -/
namespace Go.Proofs.YtcihcbfcgjepfaaGreatDoor
open Go.Sh Go.RowKit Tryz
theorem yVM : zVC prog 28 [some .i64, some .i64, none] = true := by kernel_rfl
theorem yJM : prog.eqGuardType prog.depth 28 = false := by kernel_rfl
theorem yXe {a b : Val} (h : zXH a = zXH b) : a = b := by
 obtain ⟨a1, a2, a3⟩ := a; obtain ⟨b1, b2, b3⟩ := b
 simp [zXH] at h; simp [h]
theorem eqVal (x y : Operand) (a b : Val) (w : World) : (eqS .eql 28 x y (zZc a) (zZc b)).run prog w = .ok (.bool (decide (a = b))) w := by
 refine eqS_row (ks := [some .i64, some .i64, none]) (xs := zXH a) (ys := zXH b) yVM yJM rfl rfl ?_ w
 rw [decide_eq_true_iff]
 exact ⟨fun h => by rw [h], yXe⟩
theorem yVI {l : List UInt8} {w : Nat} (h : zXZ (l.take w) = l) : l.length <= w /\ zXZ l = l := by
 have h1 := zVJ (l.take w)
 rw [h] at h1
 have h2 := List.length_take_le w l
 have h3 : l.length <= w := by omega
 rw [List.take_of_length_le h3] at h
 exact ⟨h3, h⟩
theorem fitted_holds {f : Fld} {p : Int} {v : Val} (hf : zQ0 f = true) (hv : zXh v = 0) (hk : v.kind ≠ 0) : (decide ((zQJ f p v).2 = 0) && decide ((zQJ f p v).1 = v)) = zQP f p v := by
 have hv0 : ¬ zXh v ≠ 0 := by omega
 obtain ⟨hvs, hvn, hv4⟩ := zKb hv
 unfold zQJ
 rw [if_neg hk]
 by_cases h1 : v.kind ≠ (zQ3 f).kind
 ·rw [if_pos h1]
  have : zQP f p v = false := by
   unfold zQP; rw [if_neg hv0, if_neg hk]
   by_cases h5 : f.kind = 5
   ·have : v.kind ≠ 2 := by unfold zQ3 at h1; rw [if_pos h5] at h1; exact h1
    rw [if_pos h5, decide_eq_false this]; rfl
   ·have : v.kind ≠ f.kind := by unfold zQ3 at h1; rw [if_neg h5] at h1; exact h1
    rw [if_neg h5, if_pos this]
  rw [this]; simp
 rw [if_neg h1]
 by_cases h4 : f.kind = 4
 ·rw [if_pos h4]
  have hkv : v.kind = 4 := by
    have : v.kind = (zQ3 f).kind := by simpa using h1
    rw [this]; unfold zQ3; rw [if_neg (by omega)]; exact h4
  have hn0 : v.n = 0 := by rw [hkv] at hvn; simpa [okN] using hvn
  have hfit : zQP f p v = (decide ((v.s.size : Int) <= f.width) && decide (zXZ v.s.data.toList = v.s.data.toList) && zX9 v.s.data.toList p) := by
   unfold zQP; rw [if_neg hv0, if_neg hk, if_neg (by omega), if_neg (by rw [hkv, h4]; simp), if_neg (by omega), if_pos h4]
  obtain ⟨wl, wh⟩ := zKU hf h4
  have key : (zXZ (v.s.data.toList.take f.width.toNat) = v.s.data.toList) ↔ ((v.s.size : Int) <= f.width /\ zXZ v.s.data.toList = v.s.data.toList) := by
   constructor
   ·intro h; have h2 := yVI h; rw [zXU] at h2; exact ⟨by omega, h2.2⟩
   ·rintro ⟨h2, h3⟩; rw [List.take_of_length_le (by rw [zXU]; omega)]; exact h3
  have eqv : (⟨4, 0, bs (zXZ (v.s.data.toList.take f.width.toNat))⟩ : Val) = v ↔ zXZ (v.s.data.toList.take f.width.toNat) = v.s.data.toList := by
   rw [← zYV]
   obtain ⟨k, n, s⟩ := v
   simp only at hkv hn0
   subst hkv hn0
   simp
  have key2 : (decide ((v.s.size : Int) <= f.width) && decide (zXZ v.s.data.toList = v.s.data.toList)) = decide (zXZ (v.s.data.toList.take f.width.toNat) = v.s.data.toList) := by rw [← Bool.decide_and]; exact zZN key.symm
  rw [hfit, key2]
  by_cases hb : zXZ (v.s.data.toList.take f.width.toNat) = v.s.data.toList
  ·rw [decide_eq_true hb, hb]
   cases ht : zX9 v.s.data.toList p
   ·simp
   ·rw [if_pos rfl]
    have h9 := eqv.2 hb
    rw [hb] at h9
    simp [h9]
  ·rw [decide_eq_false hb]
   cases ht : zX9 (zXZ (v.s.data.toList.take f.width.toNat)) p
   ·simp
   ·rw [if_pos rfl]
    have h9 : ¬ (⟨4, 0, bs (zXZ (v.s.data.toList.take f.width.toNat))⟩ : Val) = v := fun h => hb (eqv.1 h)
    simp [h9]
 ·rw [if_neg h4]
  cases hfit : zQP f p v
  ·simp
  ·simp
theorem xXR (f : Fld) (p : Int) (v : Val) (hs : f.name.size <= 140737488355328) (hf : zQ0 f = true) (hpg : zXm p = true) (w : World) : Calls prog 94 #[yQ2 f, .int .i64 p, zZc v] w fun e w' => e = .returned (.bool (zQP f p v)) /\ Pu w w' := by
 refine yWO _ _ _ _ _ _ _ _ w _ ?_
 refine alB fun w1 hp1 hb1 => alB fun w2 hp2 hb2 => ?_
 have hp02 := hp1.trans hp2
 have b1 : ∀ {wz}, Pu w2 wz -> wz.heap[w.heap.size]? = some (.cells #[.string f.name, .int .i64 f.kind, .int .i64 f.width, .bool f.null] 38) := fun h => h.blk (hp2.blk hb1)
 have b2 : ∀ {wz}, Pu w2 wz -> wz.heap[w1.heap.size]? = some (.cells #[.int .i64 v.kind, .int .i64 v.n, .string v.s] 28) := fun h => h.blk hb2
 have q1 := b1 (Pu.refl w2)
 have q2 := b2 (Pu.refl w2)
 have out : ∀ {wz : World} {b : Bool}, Pu w wz -> zQP f p v = b -> (Ending.returned (Value.bool b) = Ending.returned (Value.bool (zQP f p v)) /\ Pu w wz) := fun h1 h2 => ⟨by rw [h2], h1⟩
 have bad : zXh v ≠ 0 -> zQP f p v = false := fun h => by unfold zQP; rw [if_pos h]
 refine ⟨_, cl0 q2, Br.of (fun d => ⟨_, cl q1 3, ?_⟩) (fun d => ⟨_, cl q2 0, _, cl q2 1, _, cl q2 2, (yKj v w2).mono ?_⟩)⟩
 ·have d := zQ6 d
  have key : (f.null && decide (v = noV)) = zQP f p v := by
   by_cases h : zXh v ≠ 0
   ·rw [bad h]
    have : ¬ v = noV := fun e => h (by rw [e]; rfl)
    rw [decide_eq_false this]; simp
   ·have h : zXh v = 0 := by simpa using h
    obtain ⟨_, h2, h3⟩ := zKb h
    have hn : v.n = 0 := by rw [d] at h2; simpa [okN] using h2
    have hz : v.s.size = 0 := h3.resolve_left (by omega)
    have : v = noV := by
     obtain ⟨k, n, s⟩ := v
     simp only at d hn hz
     subst d hn
     have : s = ⟨#[]⟩ := zXV (by
       have : s.data.toList.length = 0 := by rw [zXU]; exact hz
       rw [List.length_eq_zero_iff] at this; rw [this])
     subst this; rfl
    rw [decide_eq_true this]
    unfold zQP; rw [if_neg (by omega), if_pos d]; simp
  refine Br.of (fun d1 => ⟨_, cl q2 0, _, cl q2 1, _, cl q2 2, _, w2, eqVal _ _ v noV w2, out hp02 ?_⟩) (fun d1 => out hp02 ?_)
  ·rw [← key, d1]; rfl
  ·rw [← key, d1]; rfl
 rintro e w3 ⟨rfl, hp3⟩
 have hp03 := hp02.trans hp3
 refine ⟨_, rfl, Br.of (fun d1 => out hp03 (bad (zQC d1))) (fun d1 => ⟨_, cl (b1 hp3) 0, _, cl (b1 hp3) 1, _, cl (b1 hp3) 2, _, cl (b1 hp3) 3, _, cl (b2 hp3) 0, _, cl (b2 hp3) 1, _, cl (b2 hp3) 2, (fit_c f p v hs w3).mono ?_⟩)⟩
 have hv := zQw d1
 have hF := zZH (f := f) (p := p) (v := v) (by rw [hf, hpg]; rfl) hv
 have key := fitted_holds (f := f) (p := p) hf hv (zQm d)
 rintro e w4 ⟨rfl, hp4⟩
 rw [hF]
 refine ⟨_, _, _, _, rfl, xQn rfl s25.symm rfl fun w5 hp5 hs5 hb5 => ?_⟩
 have hp35 := (hp3.trans hp4).trans hp5
 have hp05 := hp02.trans hp35
 refine Br.of (fun d2 => ⟨_, cl hb5 0, _, cl hb5 1, _, cl hb5 2, _, cl (b2 hp35) 0, _, cl (b2 hp35) 1, _, cl (b2 hp35) 2, _, w5, eqVal _ _ (zQJ f p v).1 v w5, out hp05 ?_⟩) (fun d2 => out hp05 ?_)
 ·rw [← key, decide_eq_true (zQ6 d2)]; rfl
 ·rw [← key, decide_eq_false (zQm d2)]; rfl
theorem xQA {l : List Fld} {vs : List Val} {i : Nat} {f : Fld} {v : Val} (h : l[i]? = some f) (h2 : vs[i]? = some v) : (l.zip vs)[i]? = some (f, v) := by
 rw [List.getElem?_zip_eq_some]; exact ⟨h, h2⟩
def zJP (l : List Fld) (p : Int) (vs : List Val) : Bool := (l.zip vs).all (fun x => zQP x.1 p x.2)
theorem zKy {l : List Fld} {p : Int} {r : Rec} (h : r.v.length ≠ l.length) : zQB l p r = 10 := by unfold zQB; rw [if_pos h]
theorem zJ0 {l : List Fld} {p : Int} {r : Rec} (h : r.v.length = l.length) : zQB l p r = if zJP l p r.v then 0 else 1 := by unfold zQB; rw [if_neg (by simp [h])]; rfl
theorem yQm {w : World} {s t : SV} {l : List Fld} {r : Rec} (p : Int) (h : zXI w s l) (hr : zXI w t r.v) : Calls prog 43 #[.slice s.a s.len s.cap, .int .i64 p, .agg #[.bool r.gone, .slice t.a t.len t.cap]] w fun e w' => e = .returned (.int .i64 (zQB l p r)) /\ Pu w w' := by
 refine yJT _ _ _ _ w _ ?_
 refine alB fun w1 hp1 hb1 => ⟨t, cl hb1 1, ?_⟩
 have h1 := h.len
 have h2 := hr.len
 have h3 := h.lim
 refine Br.of (fun d => ⟨by rw [zKy (by have := zQC d; omega)], hp1⟩) (fun d => ?_)
 have hl : r.v.length = l.length := by have := zQw d; omega
 refine zQz l.length (fun k u w' => u = (k : Int) /\ ((l.zip r.v).take k).all (fun x => zQP x.1 p x.2) = true /\ Pu w1 w') ⟨rfl, rfl, Pu.refl _⟩ ?_
 rintro k J u w2 hk ⟨hu, hal, hp2⟩ hJ
 obtain rfl : u = (k : Int) := hu
 refine Br.of (fun d1 => ?_) (fun d1 => ?_)
 ·have hk2 : k < l.length := by have := zQn d1; omega
  obtain ⟨f, hf⟩ := zXg hk2
  obtain ⟨v, hv⟩ := zXg (show k < r.v.length by omega)
  refine zQf fun w3 hp3 _ => ?_
  have hp13 := hp2.trans hp3
  obtain ⟨a, ha, hi, _, _, c, c0, c1, c2, c3⟩ := zZp ((h.pu hp1).pu hp13) hf
  obtain ⟨b, hb, hbi, _, _, e0, e1, e2⟩ := yVB ((hr.pu hp1).pu hp13) hv
  refine ⟨a, ha, by omega, by omega, _, c0, _, c1, _, c2, _, c3, t, cl (hp13.blk hb1) 1, b, hb, by omega, by omega, _, e0, _, e1, _, e2, (yKw f p v w3).mono ?_⟩
  rintro e w4 ⟨rfl, hp4⟩
  have hz := xQA hf hv
  refine ⟨_, rfl, Br.of (fun d2 => ⟨?_, hp1.trans (hp13.trans hp4)⟩) (fun d2 => ?_)⟩
  ·have : zJP l p r.v = false := by unfold zJP; rw [List.all_eq_false]; exact ⟨_, List.mem_of_getElem? hz, by simpa using d2⟩
   rw [zJ0 hl, this]; rfl
  ·rw [zQc (by omega) (by omega)]
   exact hJ _ _ hk2 ⟨by omega, by rw [zZI _ hz, hal, show zQP f p v = true by simpa using d2]; rfl, hp13.trans hp4⟩
 ·have hk2 : k = l.length := by have := zQg d1; omega
  have : zJP l p r.v = true := by unfold zJP; rw [← hal, List.take_of_length_le (by rw [List.length_zip]; omega)]
  exact ⟨by rw [zJ0 hl, this]; rfl, hp1.trans hp2⟩
theorem zZC {l : List Fld} {p : Int} : ∀ {rs : List Rec} {k : Nat} {r : Rec}, (∀ x ∈ rs.take k, zQB l p x = 0) -> rs[k]? = some r -> zQB l p r ≠ 0 -> zXS l p rs = zQB l p r
 | [], k, r, _, h, _ => by simp at h
 | x :: rs, 0, r, _, h, h2 => by simp at h; subst h; unfold zXS; rw [if_pos h2]
 | x :: rs, k + 1, r, h0, h, h2 => by
  unfold zXS
  rw [if_neg (by rw [h0 x (by simp)]; simp)]
  exact zZC (k := k) (fun y hy => h0 y (by simp [hy])) (by simpa using h) h2
theorem zZF {l : List Fld} {p : Int} : ∀ {rs : List Rec}, (∀ x ∈ rs, zQB l p x = 0) -> zXS l p rs = 0
 | [], _ => rfl
 | x :: rs, h => by unfold zXS; rw [if_neg (by rw [h x (by simp)]; simp)]; exact zZF fun y hy => h y (by simp [hy])
theorem zW6 {t : Tbl} (h : zXm t.page = false) : zXt t = 1 := by unfold zXt; rw [h]; rfl
theorem zJO {t : Tbl} (h : zXm t.page = true) (h2 : zQV t.fields ≠ 0) : zXt t = zQV t.fields := by unfold zXt; rw [h, if_pos rfl, if_pos h2]
theorem zWp {t : Tbl} (h : zXm t.page = true) (h2 : zQV t.fields = 0) (h3 : 300 < t.recs.length) : zXt t = 3 := by unfold zXt; rw [h, if_pos rfl, if_neg (by omega), if_pos h3]
theorem zWG {t : Tbl} (h : zXm t.page = true) (h2 : zQV t.fields = 0) (h3 : ¬ 300 < t.recs.length) : zXt t = zXS t.fields t.page t.recs := by unfold zXt; rw [h, if_pos rfl, if_neg (by omega), if_neg h3]
theorem zYH {l : List Fld} (h : zQV l = 0) : l ≠ [] /\ l.all zQ0 = true /\ (l.map (·.name)).Nodup /\ l.length <= 16 /\ wide l <= 2000 := by
 unfold zQV at h
 split at h
 ·omega
 ·rename_i h1
  split at h
  ·omega
  ·rename_i h2
   split at h
   ·omega
   ·rename_i h3
    simp only [not_or] at h1 h3
    exact ⟨h1.1, by simpa using h1.2, by simpa using h2, by omega, by omega⟩
abbrev zYv (t : Tbl) (f r : SV) : Value := .agg #[.int .i64 t.page, .slice f.a f.len f.cap, .slice r.a r.len r.cap]
theorem yQh {w : World} {t : Tbl} {f r : SV} (h : zK1 w t f r) : Calls prog 12 #[zYv t f r] w fun e w' => e = .returned (.int .i64 (zXt t)) /\ Pu w w' := by
 refine yKW _ _ _ w _ ?_
 refine alB fun w1 hp1 hb1 => ⟨_, cl0 hb1, (zYD t.page w1).mono ?_⟩
 rintro e w2 ⟨rfl, hp2⟩
 have h1 := h.recs.len
 have h3 := h.recs.lim
 refine ⟨_, rfl, Br.of (fun d => ⟨by rw [zW6 (by simpa using d)], hp1.trans hp2⟩) (fun d => ⟨_, cl (hp2.blk hb1) 1, (zWO (h.fields.pu (hp1.trans hp2))).mono ?_⟩)⟩
 have hpg : zXm t.page = true := by simpa using d
 rintro e w3 ⟨rfl, hp3⟩
 have hp13 := hp2.trans hp3
 refine ⟨_, rfl, Br.of (fun d1 => ⟨by rw [zJO hpg (zQC d1)], hp1.trans hp13⟩) (fun d1 => ⟨_, cl (hp13.blk hb1) 2, Br.of (fun d2 => ⟨by rw [zWp hpg (zQw d1) (by have := zQn d2; omega)], hp1.trans hp13⟩) (fun d2 => ?_)⟩)⟩
 have hvf := zQw d1
 have e0 := zWG hpg hvf (by have := zQg d2; omega)
 refine zQz t.recs.length (fun k u w' => u = (k : Int) /\ (∀ x ∈ t.recs.take k, zQB t.fields t.page x = 0) /\ Pu w1 w') ⟨rfl, by simp, hp13⟩ ?_
 rintro k J u w4 hk ⟨hu, hal, hp4⟩ hJ
 obtain rfl : u = (k : Int) := hu
 refine ⟨_, cl (hp4.blk hb1) 2, Br.of (fun d3 => zQf fun w5 hp5 _ => ?_) (fun d3 => ?_)⟩
 ·have hk2 : k < t.recs.length := by have := zQn d3; omega
  obtain ⟨x, hx⟩ := zXg hk2
  have hp15 := hp4.trans hp5
  obtain ⟨a, q, ha, hi, hq, c0, c1⟩ := yVm ((h.recs.pu hp1).pu hp15) hx
  refine ⟨_, cl (hp15.blk hb1) 1, _, cl0 (hp15.blk hb1), _, cl (hp15.blk hb1) 2, a, ha, by omega, by omega, _, c0, _, c1, (yQm t.page ((h.fields.pu hp1).pu hp15) hq).mono ?_⟩
  rintro e w6 ⟨rfl, hp6⟩
  refine ⟨_, rfl, Br.of (fun d4 => ⟨by rw [e0, zZC hal hx (zQC d4)], hp1.trans (hp15.trans hp6)⟩) (fun d4 => ?_)⟩
  rw [zQc (by omega) (by omega)]
  refine hJ _ _ hk2 ⟨by omega, fun y hy => ?_, hp15.trans hp6⟩
  rw [zQO hx, List.mem_append, List.mem_singleton] at hy
  rcases hy with hy | rfl
  ·exact hal y hy
  ·exact zQw d4
 ·have hk2 : k = t.recs.length := by have := zQg d3; omega
  subst hk2
  rw [List.take_length] at hal
  exact ⟨by rw [e0, zZF hal], hp1.trans hp4⟩
theorem yZ9 {w : World} {t : Tbl} {f r : SV} (h : zK1 w t f r) (hl : Lim.ok t.fields) : Calls prog 38 #[zYv t f r] w fun e w' => e = .returned (.int .i64 (zXt t)) /\ Pu w w' := by
 refine yKs _ _ _ w _ ?_
 refine alB fun w1 hp1 hb1 => ⟨_, cl0 hb1, (yX8 t.page w1).mono ?_⟩
 rintro e w2 ⟨rfl, hp2⟩
 have h1 := h.recs.len
 have h3 := h.recs.lim
 have h1f := h.fields.len
 have h3f := h.fields.lim
 refine ⟨_, rfl, Br.of (fun d => ⟨by rw [zW6 (by simpa using d)], hp1.trans hp2⟩) (fun d => ⟨_, cl (hp2.blk hb1) 1, (zKh (h.fields.pu (hp1.trans hp2)) hl).mono ?_⟩)⟩
 have hpg : zXm t.page = true := by simpa using d
 rintro e w3 ⟨rfl, hp3⟩
 have hp13 := hp2.trans hp3
 refine ⟨_, rfl, Br.of (fun d1 => ⟨by rw [zJO hpg (zQC d1)], hp1.trans hp13⟩) (fun d1 => ⟨_, cl (hp13.blk hb1) 2, Br.of (fun d2 => ⟨by rw [zWp hpg (zQw d1) (by have := zQn d2; omega)], hp1.trans hp13⟩) (fun d2 => ⟨_, cl (hp13.blk hb1) 2, ?_⟩)⟩)⟩
 have hvf := zQw d1
 obtain ⟨_, hall, _, _, _⟩ := zYH hvf
 have e0 := zWG hpg hvf (by have := zQg d2; omega)
 refine zQz t.recs.length (fun k u w' => u = (k : Int) /\ (∀ x ∈ t.recs.take k, zQB t.fields t.page x = 0) /\ Pu w1 w') ⟨rfl, by simp, hp13⟩ ?_
 rintro k J u w4 hk ⟨hu, hal, hp4⟩ hJ
 obtain rfl : u = (k : Int) := hu
 refine Br.of (fun d3 => ?_) (fun d3 => ?_)
 ·have hk2 : k < t.recs.length := by have := zQn d3; omega
  obtain ⟨x, hx⟩ := zXg hk2
  obtain ⟨a, q, ha, hi, hq, c0, c1⟩ := yVm ((h.recs.pu hp1).pu hp4) hx
  have next : ∀ {w6 : World}, Pu w4 w6 -> zQB t.fields t.page x = 0 -> xXZ (fun e w' => e = .returned (.int .i64 (zXt t)) /\ Pu w w') J (some (⟨w.heap.size, 0, none⟩ : Addr)) r ((r.len : Nat) : Int) (k : Int) [] w6 := fun {w6} hp6 h0 => by
   show J (IntKind.i64.wrap ((k : Int) + 1)) w6
   rw [zQc (by omega) (by omega)]
   refine hJ _ _ hk2 ⟨by omega, fun y hy => ?_, hp4.trans hp6⟩
   rw [zQO hx, List.mem_append, List.mem_singleton] at hy
   rcases hy with hy | rfl
   ·exact hal y hy
   ·exact h0
  have hql := hq.len
  refine ⟨a, ha, by omega, by omega, _, c0, _, c1, xQn rfl (by kernel_rfl) rfl fun w5 hp5 hs5 hb5 => ⟨_, cl hb5 1, _, cl ((hp4.trans hp5).blk hb1) 1, Br.of (fun d4 => ?_) (fun d4 => ⟨_, cl ((hp4.trans hp5).blk hb1) 1, ?_⟩)⟩⟩
  ·have : zQB t.fields t.page x = 10 := zKy (by have := zQC d4; omega)
   exact ⟨by rw [e0, zZC hal hx (by rw [this]; omega), this], hp1.trans (hp4.trans hp5)⟩
  have hlen : x.v.length = t.fields.length := by have := zQw d4; omega
  have hp15 := hp4.trans hp5
  refine zQz t.fields.length (fun j u w' => u = (j : Int) /\ ((t.fields.zip x.v).take j).all (fun y => zQP y.1 t.page y.2) = true /\ Pu w5 w') ⟨rfl, rfl, Pu.refl _⟩ ?_
  rintro j J2 u w6 hj ⟨hu, haz, hp6⟩ hJ2
  obtain rfl : u = (j : Int) := hu
  have hp16 := hp15.trans hp6
  refine Br.of (fun d5 => ?_) (fun d5 => ?_)
  ·have hj2 : j < t.fields.length := by have := zQn d5; omega
   obtain ⟨g, hg⟩ := zXg hj2
   obtain ⟨v, hv⟩ := zXg (show j < x.v.length by omega)
   obtain ⟨b, hb, hbi, _, _, c', k0, k1, k2, k3⟩ := zZp ((h.fields.pu hp1).pu hp16) hg
   refine ⟨b, hb, by omega, by omega, _, k0, _, k1, _, k2, _, k3, xQn rfl s23.symm rfl fun w7 hp7 hs7 hb7 => zQf fun w8 hp8 _ => ?_⟩
   have hp68 := hp7.trans hp8
   have hp18 := hp16.trans hp68
   have hb8 := hp8.blk hb7
   obtain ⟨m, hm, hmi, _, _, v0, v1, v2⟩ := yVB (hq.pu ((hp5.trans hp6).trans hp68)) hv
   refine ⟨_, cl hb8 0, _, cl hb8 1, _, cl hb8 2, _, cl hb8 3, _, cl0 (hp18.blk hb1), q, cl ((hp6.trans hp68).blk hb5) 1, m, hm, by omega, by omega, _, v0, _, v1, _, v2, (xXR g t.page v (hl g (List.mem_of_getElem? hg)) (List.all_eq_true.1 hall g (List.mem_of_getElem? hg)) hpg w8).mono ?_⟩
   rintro e w9 ⟨rfl, hp9⟩
   have hz := xQA hg hv
   refine ⟨_, rfl, Br.of (fun d6 => ?_) (fun d6 => ?_)⟩
   ·have : zJP t.fields t.page x.v = false := by unfold zJP; rw [List.all_eq_false]; exact ⟨_, List.mem_of_getElem? hz, by simpa using d6⟩
    have h1 : zQB t.fields t.page x = 1 := by rw [zJ0 hlen, this]; rfl
    exact ⟨by rw [e0, zZC hal hx (by rw [h1]; omega), h1], hp1.trans (hp18.trans hp9)⟩
   ·rw [zQc (by omega) (by omega)]
    exact hJ2 _ _ hj2 ⟨by omega, by rw [zZI _ hz, haz, show zQP g t.page v = true by simpa using d6]; rfl, (hp6.trans hp68).trans hp9⟩
  ·have hj2 : j = t.fields.length := by have := zQg d5; omega
   have : zJP t.fields t.page x.v = true := by unfold zJP; rw [← haz, List.take_of_length_le (by rw [List.length_zip]; omega)]
   exact next (hp5.trans hp6) (by rw [zJ0 hlen, this]; rfl)
 ·have hk2 : k = t.recs.length := by have := zQg d3; omega
  subst hk2
  rw [List.take_length] at hal
  exact ⟨by rw [e0, zZF hal], hp1.trans hp4⟩
end Go.Proofs.YtcihcbfcgjepfaaGreatDoor
/- Table: lengths and offsets; how large a table is; the law on which tables there are. No condition. -/
namespace Go.Proofs.YtcihcbfcgjepfaaGreatDoor
open Go.Sh Go.RowKit Tryz
theorem yZf {w : World} {s : SV} {l : List Val} (h : zXI w s l) : Calls prog 91 #[.slice s.a s.len s.cap] w fun e w' => ∃ n : Int, e = .returned (.int .i64 n) /\ Pu w w' := by
 refine yJt _ w _ ?_
 have hlen := h.len
 have hlim := h.lim
 refine zQz l.length (fun k t w' => t.2 = (k : Int) /\ Pu w w') ⟨rfl, Pu.refl _⟩ ?_
 rintro k J ⟨t1, t2⟩ w2 hk ⟨ht, hp⟩ hJ
 obtain rfl : t2 = (k : Int) := ht
 dsimp only
 refine Br.of (fun d => ?_) (fun d => ⟨_, rfl, hp⟩)
 have hk2 : k < l.length := by have := zQn d; omega
 obtain ⟨v, hv⟩ := zXg hk2
 obtain ⟨a, ha, hi, _, _, c0, c1, c2⟩ := yVB (h.pu hp) hv
 refine ⟨a, ha, by omega, by omega, _, c2, ?_⟩
 rw [zQc (n := (k : Int) + 1) (by omega) (by omega)]
 exact hJ _ _ hk2 ⟨by dsimp only; omega, hp⟩
theorem yVt {w : World} {t : Tbl} {f r : SV} (h : zK1 w t f r) : Calls prog 36 #[zYv t f r] w fun e w' => ∃ n : Int, e = .returned (.int .i64 n) /\ Pu w w' := by
 refine yKb _ _ _ w _ (alB fun w1 hp1 hb1 => ⟨_, cl hb1 1, ?_⟩)
 have hfl := h.fields.len
 have hfm := h.fields.lim
 have hrl := h.recs.len
 have hrm := h.recs.lim
 refine zQz t.fields.length (fun k u w' => u.2 = (k : Int) /\ Pu w1 w') ⟨rfl, Pu.refl _⟩ ?_
 rintro k J ⟨u1, u2⟩ w2 hk ⟨hu, hp⟩ hJ
 obtain rfl : u2 = (k : Int) := hu
 dsimp only
 refine ⟨_, cl (hp.blk hb1) 1, Br.of (fun d => ?_) (fun d => ?_)⟩
 ·have hk2 : k < t.fields.length := by have := zQn d; omega
  obtain ⟨x, hx⟩ := zXg hk2
  obtain ⟨a, ha, hi, _, _, c, _⟩ := zZp (h.fields.pu (hp1.trans hp)) hx
  refine ⟨_, cl (hp.blk hb1) 1, a, ha, by omega, by omega, _, c, ?_⟩
  rw [zQc (n := (k : Int) + 1) (by omega) (by omega)]
  exact hJ _ _ hk2 ⟨by dsimp only; omega, hp⟩
 clear hJ J
 refine zQz t.recs.length (fun k u w' => u.2 = (k : Int) /\ Pu w1 w') ⟨rfl, hp⟩ ?_
 rintro k J ⟨u1, u2⟩ w2 hk ⟨hu, hp⟩ hJ
 obtain rfl : u2 = (k : Int) := hu
 dsimp only
 refine ⟨_, cl (hp.blk hb1) 2, Br.of (fun d => ?_) (fun d => ⟨_, rfl, hp1.trans hp⟩)⟩
 have hk2 : k < t.recs.length := by have := zQn d; omega
 obtain ⟨x, hx⟩ := zXg hk2
 obtain ⟨a, q, ha, hi, hq, c0, c1⟩ := yVm (h.recs.pu (hp1.trans hp)) hx
 refine ⟨_, cl (hp.blk hb1) 2, a, ha, by omega, by omega, _, c1, (yZf hq).mono ?_⟩
 rintro e w3 ⟨n, rfl, hp3⟩
 refine ⟨n, rfl, ?_⟩
 rw [zQc (n := (k : Int) + 1) (by omega) (by omega)]
 exact hJ _ _ hk2 ⟨by dsimp only; omega, hp.trans hp3⟩
theorem u55 : prog.underlying 43 = some (.slice 3) := by kernel_rfl
theorem info3 : (prog.info? 3).map (fun i => (i.zero, i.size, i.bytes)) = some (some (.int .i64 0), 1, 8) := by kernel_rfl
def zXD (w0 w : World) (s : SV) (l : List Int) : Prop := zQj w 3 1 s (l.map xQD) /\ ∀ b ∈ zQb s, w0.heap.size <= b
theorem zXD.len {w0 w : World} {s : SV} {l : List Int} (h : zXD w0 w s l) : s.len = l.length := by have := h.1.1; simp at this; omega
theorem zXD.pu {w0 w w' : World} {s : SV} {l : List Int} (h : zXD w0 w s l) (hp : Pu w w') : zXD w0 w' s l := ⟨h.1.pu hp, h.2⟩
theorem zXD.nil (w0 w : World) : zXD w0 w ⟨none, 0, 0⟩ [] := ⟨zQj.nil w 3 1, by simp [zQb]⟩
theorem zXD.low {w0 w1 w : World} {s : SV} {l : List Int} (h : zXD w1 w s l) (hz : w0.heap.size <= w1.heap.size) : zXD w0 w s l := ⟨h.1, fun b hb => Nat.le_trans hz (h.2 b hb)⟩
theorem zXD.push {w0 w : World} {s : SV} {l : List Int} (h : zXD w0 w s l) (hz : w0.heap.size <= w.heap.size) {r : Nat} {n : Int} (hr : w.heap[r]? = some (.cells #[.int .i64 n] 3)) (hb : l.length <= 1000000) :
  ∃ (s' : SV) (w' : World), (Builtin.append_ #[43, 43] 43 #[.slice s.a s.len s.cap, .slice (some ⟨r, 0, none⟩) 1 1]).run prog w = .ok (.slice s'.a s'.len s'.cap) w' /\ zXD w0 w' s' (l ++ [n]) /\ Fr (· ∈ zQb s) w w' := by
 have h1 := h.len
 obtain ⟨s', w', hra, hrow, hf, hblk, _⟩ := yYa (P := prog) (ty := 43) u55 info3 rfl h.1 (a := ⟨r, 0, none⟩) (u := .int .i64 n) (by rw [zQo hr]; rfl) rfl (by omega)
 refine ⟨s', w', hra, ⟨by simpa using hrow, fun b hb => ?_⟩, hf⟩
 rcases hblk b hb with h2 | h2
 ·exact h.2 b h2
 ·omega
theorem zKq {w w0 w1 : World} {a b : SV} {l : List Int} (ha : zXD w0 w a l) (hb : zXD w1 w b l) : Calls prog 72 #[.slice a.a a.len a.cap, .slice b.a b.len b.cap] w fun e w' => e = .returned (.bool true) /\ Pu w w' := by
 refine yJx _ _ w _ ?_
 have hla := ha.len
 have hlb := hb.len
 have hc := ha.1.le_cap
 have hm : maxLen = 9223372036854775807 := by unfold maxLen; omega
 refine Br.of (fun d => absurd (zQC d) (by omega)) (fun _ => zQz l.length (fun k t w' => t = (k : Int) /\ Pu w w') ⟨rfl, Pu.refl _⟩ ?_)
 rintro k J t w2 hk ⟨ht, hp⟩ hJ
 obtain rfl : t = (k : Int) := ht
 refine Br.of (fun d => zQf fun w3 hp3 _ => ?_) (fun d => ⟨rfl, hp⟩)
 have hk2 : k < l.length := by have := zQn d; omega
 obtain ⟨n, hn⟩ := zXg hk2
 obtain ⟨x, hx, hcx, _⟩ := ((ha.pu hp).pu hp3).1.cell (j := k) (v := xQD n) (by rw [List.getElem?_map, hn]; rfl)
 obtain ⟨y, hy, hcy, _⟩ := ((hb.pu hp).pu hp3).1.cell (j := k) (v := xQD n) (by rw [List.getElem?_map, hn]; rfl)
 refine ⟨x, hx, by omega, by omega, n, by rw [zQL, Nat.mul_one]; exact hcx, y, hy, by omega, by omega, n, by rw [zQL, Nat.mul_one]; exact hcy, Br.of (fun d1 => absurd rfl (zQC d1)) (fun _ => ?_)⟩
 rw [zQc (by omega) (by omega)]
 exact hJ _ _ hk2 ⟨by omega, hp.trans hp3⟩
end Go.Proofs.YtcihcbfcgjepfaaGreatDoor
/- Table: the law on what a value becomes in a field. No condition. -/
namespace Go.Proofs.YtcihcbfcgjepfaaGreatDoor
open Go.Sh Go.RowKit Tryz
theorem zJ7 {α : Type} (p : α -> Bool) : ∀ l : List α, (l.dropWhile p).dropWhile p = l.dropWhile p
 | [] => rfl
 | a :: l => by
  by_cases h : p a = true
  ·rw [List.dropWhile_cons, if_pos h]; exact zJ7 p l
  ·rw [List.dropWhile_cons, if_neg h, List.dropWhile_cons, if_neg h]
theorem yVe (l : List UInt8) : zXZ (zXZ l) = zXZ l := by
 unfold zXZ; rw [List.reverse_reverse, zJ7]
theorem zXN (a b : Val) (w : World) : Calls prog 19 #[zZc a, zZc b] w fun e w' => e = .returned (.bool (decide (a = b))) /\ Pu w w' := by
 refine yJ0 _ _ _ _ _ _ w _ ?_
 refine alB fun w1 hp1 hb1 => alB fun w2 hp2 hb2 => ?_
 have hp := hp1.trans hp2
 have q1 := hp2.blk hb1
 refine ⟨_, cl0 q1, _, cl0 hb2, Br.of (fun d => ⟨_, cl q1 1, _, cl hb2 1, Br.of (fun d1 => ⟨_, cl q1 2, _, cl hb2 2, ?_, hp⟩) (fun d1 => ⟨?_, hp⟩)⟩) (fun d => ⟨?_, hp⟩)⟩
 ·rw [zZh]
  congr 2
  have e1 : a.kind = b.kind := zQ6 d
  have e2 : a.n = b.n := zQ6 d1
  refine zZN ⟨fun e3 => ?_, fun e => by rw [e]⟩
  obtain ⟨a1, a2, a3⟩ := a; obtain ⟨b1, b2, b3⟩ := b
  simp only at e1 e2 e3
  subst e1 e2 e3; rfl
 ·rw [decide_eq_false (fun e => zQm d1 (by rw [e]))]
 ·rw [decide_eq_false (fun e => zQm d (by rw [e]))]
end Go.Proofs.YtcihcbfcgjepfaaGreatDoor
/- Table: records of empty values, places of names; the law on them. No condition. -/
namespace Go.Proofs.YtcihcbfcgjepfaaGreatDoor
open Go.Sh Go.RowKit Tryz
theorem u44 : prog.underlying 75 = some (.slice 28) := by kernel_rfl
theorem info25 : (prog.info? 28).map (fun i => (i.zero, i.size, i.bytes)) = some (some (.agg #[.int .i64 0, .int .i64 0, .string ⟨#[]⟩]), 3, 32) := by kernel_rfl
theorem s46 : zXr prog 77 = 2 := by kernel_rfl
theorem zQI (v : Val) : (zXH v).length = 3 := rfl
def zZO (w0 w : World) (s : SV) (l : List Val) : Prop := zQj w 28 3 s (l.flatMap zXH) /\ ∀ b ∈ zQb s, w0.heap.size <= b
theorem zZO.len {w0 w : World} {s : SV} {l : List Val} (h : zZO w0 w s l) : s.len = l.length := h.1.len zQI (by decide)
theorem zZO.pu {w0 w w' : World} {s : SV} {l : List Val} (h : zZO w0 w s l) (hp : Pu w w') : zZO w0 w' s l := ⟨h.1.pu hp, h.2⟩
theorem zZO.fr {B : Nat -> Prop} {w0 w w' : World} {s : SV} {l : List Val} (h : zZO w0 w s l) (hf : Fr B w w') (hn : ∀ k ∈ zQb s, ¬ B k) : zZO w0 w' s l := ⟨h.1.fr hf hn, h.2⟩
theorem zZO.nil (w0 w : World) : zZO w0 w ⟨none, 0, 0⟩ [] := ⟨zQj.nil w 28 3, by simp [zQb]⟩
theorem zZO.low {w0 w1 w : World} {s : SV} {l : List Val} (h : zZO w1 w s l) (hz : w0.heap.size <= w1.heap.size) : zZO w0 w s l := ⟨h.1, fun b hb => Nat.le_trans hz (h.2 b hb)⟩
theorem zZO.push {w0 w : World} {s : SV} {l : List Val} (h : zZO w0 w s l) (hz : w0.heap.size <= w.heap.size) {r : Nat} {v : Val} {c : Array Value} (hr : w.heap[r]? = some (.cells c 28)) (hc : c = #[.int .i64 v.kind, .int .i64 v.n, .string v.s]) (hb : l.length <= 1000000) :
  ∃ (s' : SV) (w' : World), (Builtin.append_ #[75, 75] 75 #[.slice s.a s.len s.cap, .slice (some ⟨r, 0, none⟩) 1 1]).run prog w = .ok (.slice s'.a s'.len s'.cap) w' /\ zZO w0 w' s' (l ++ [v]) /\ Fr (· ∈ zQb s) w w' := by
 subst hc
 have h1 := h.len
 obtain ⟨s', w', hra, hrow, hf, hblk, _⟩ := zQ2 (P := prog) (ty := 75) u44 info25 rfl (by decide) h.1 (A := some ⟨r, 0, none⟩) (m := 1) (c := 1) (news := zXH v) rfl (fun j u hu => ⟨_, rfl, by rw [cl hr]; simpa using hu⟩) (fun u hu => by simp [zXH] at hu; rcases hu with rfl | rfl | rfl <;> rfl) (by omega)
 refine ⟨s', w', hra, ⟨by simpa using hrow, fun b hb => ?_⟩, hf⟩
 rcases hblk b hb with h2 | h2
 ·exact h.2 b h2
 ·omega
structure RdV (w : World) (s : SV) (l : List Val) : Prop where
 len : s.len = l.length
 lim : l.length <= 140737488355328
 get : ∀ i v, l[i]? = some v -> ∃ a, s.a = some a /\ w.cell? ((a.add (i * 3)).add 0) = some (.int .i64 v.kind) /\ w.cell? ((a.add (i * 3)).add 1) = some (.int .i64 v.n) /\ w.cell? ((a.add (i * 3)).add 2) = some (.string v.s)
theorem RdV.pu {w w' : World} {s : SV} {l : List Val} (h : RdV w s l) (hp : Pu w w') : RdV w' s l := ⟨h.len, h.lim, fun i v hv => by
 obtain ⟨a, h1, h2, h3, h4⟩ := h.get i v hv
 exact ⟨a, h1, hp.cell h2, hp.cell h3, hp.cell h4⟩⟩
theorem RdV.of {w : World} {s : SV} {l : List Val} (h : zXI w s l) : RdV w s l := ⟨h.len, by have := h.lim; have := h.len; omega, fun i v hv => by
 obtain ⟨a, h1, _, _, _, h2, h3, h4⟩ := yVB h hv
 exact ⟨a, h1, h2, h3, h4⟩⟩
theorem zZO.rd {w0 w : World} {s : SV} {l : List Val} (h : zZO w0 w s l) (hb : l.length <= 140737488355328) : RdV w s l := ⟨h.len, hb, fun i v hv => by
 obtain ⟨a, h1, _, h2⟩ := h.1.elem zQI hv (o := 0) rfl
 obtain ⟨a', h1', _, h3⟩ := h.1.elem zQI hv (o := 1) rfl
 obtain ⟨a'', h1'', _, h4⟩ := h.1.elem zQI hv (o := 2) rfl
 rw [h1] at h1' h1''; cases h1'; cases h1''
 exact ⟨a, h1, h2, h3, h4⟩⟩
theorem zK0 {α : Type} {a b : List α} {k : Nat} (h : a.take k = b.take k) {x y : α} (hx : a[k]? = some x) (hy : b[k]? = some y) (e : x = y) : a.take (k + 1) = b.take (k + 1) := by
 rw [zQO hx, zQO hy, h, e]
theorem zYO {w : World} {s t : SV} {a b : List Val} (ha : RdV w s a) (hb : RdV w t b) : Calls prog 117 #[.slice s.a s.len s.cap, .slice t.a t.len t.cap] w fun e w' => e = .returned (.bool (decide (a = b))) /\ Pu w w' := by
 refine yZC _ _ w _ ?_
 have hla := ha.len
 have hlb := hb.len
 have hlim := ha.lim
 refine Br.of (fun d => ⟨by rw [decide_eq_false (fun e => zQC d (by rw [hla, hlb, e]))], Pu.refl _⟩) (fun d => ?_)
 have hab : a.length = b.length := by have := zQw d; omega
 refine zQz a.length (fun k t w' => t = (k : Int) /\ a.take k = b.take k /\ Pu w w') ⟨rfl, by simp, Pu.refl _⟩ ?_
 rintro k J t w2 hk ⟨ht, he, hp⟩ hJ
 obtain rfl : t = (k : Int) := ht
 refine Br.of (fun d1 => zQf fun w3 hp3 _ => ?_) (fun d1 => ?_)
 ·have hk2 : k < a.length := by have := zQn d1; omega
  obtain ⟨x, hx⟩ := zXg hk2
  obtain ⟨y, hy⟩ := zXg (show k < b.length by omega)
  obtain ⟨p, hpa, c0, c1, c2⟩ := ((ha.pu hp).pu hp3).get k x hx
  obtain ⟨q, hqa, e0, e1, e2⟩ := ((hb.pu hp).pu hp3).get k y hy
  refine ⟨p, hpa, by omega, by omega, _, c0, _, c1, _, c2, q, hqa, by omega, by omega, _, e0, _, e1, _, e2, (zXN x y w3).mono ?_⟩
  rintro e w4 ⟨rfl, hp4⟩
  refine ⟨_, rfl, Br.of (fun d2 => ⟨?_, (hp.trans hp3).trans hp4⟩) (fun d2 => ?_)⟩
  ·rw [decide_eq_false]
   intro e
   subst e
   rw [hx] at hy
   cases hy
   simp at d2
  ·rw [zQc (by omega) (by omega)]
   exact hJ _ _ hk2 ⟨by omega, zK0 he hx hy (by simpa using d2), (hp.trans hp3).trans hp4⟩
 ·have hk2 : k = a.length := by have := zQg d1; omega
  subst hk2
  rw [List.take_length, hab, List.take_length] at he
  exact ⟨by rw [decide_eq_true he], hp⟩
theorem zYM {w : World} {s t : SV} {x y : Bool} {a b : List Val} (ha : RdV w s a) (hb : RdV w t b) : Calls prog 60 #[.agg #[.bool x, .slice s.a s.len s.cap], .agg #[.bool y, .slice t.a t.len t.cap]] w fun e w' => e = .returned (.bool (decide (x = y) && decide (a = b))) /\ Pu w w' := by
 refine yKv _ _ _ _ w _ (alB fun w1 hp1 hb1 => alB fun w2 hp2 hb2 => ?_)
 have hp := hp1.trans hp2
 have q1 := hp2.blk hb1
 refine ⟨_, cl0 q1, _, cl0 hb2, Br.of (fun d => ⟨_, cl q1 1, _, cl hb2 1, (zYO (ha.pu hp) (hb.pu hp)).mono ?_⟩) (fun d => ⟨?_, hp⟩)⟩
 ·rintro e w3 ⟨rfl, hp3⟩
  exact ⟨_, rfl, by rw [decide_eq_true (p := x = y) (by simpa using d)]; rfl, hp.trans hp3⟩
 ·rw [decide_eq_false (p := x = y) (by simpa using d)]; rfl
theorem yWQ (n : Int) (w : World) : Calls prog 37 #[.int .i64 n] w fun e w' => e = .returned (zZc ⟨2, n, ⟨#[]⟩⟩) /\ Pu w w' := by
 refine yWK _ w _ (xQn rfl s25.symm rfl fun w1 hp1 _ hb1 => ?_)
 exact ⟨_, cl hb1 0, _, cl hb1 1, _, cl hb1 2, rfl, hp1⟩
theorem yVH (f : Fld) (w : World) : Calls prog 163 #[yQ2 f] w fun e w' => e = .returned (zZc (zQ3 f)) /\ Pu w w' := by
 refine yZD _ _ _ _ w _ ?_
 refine alB fun w1 hp1 hb1 => alB fun w2 hp2 hb2 => ⟨_, cl (hp2.blk hb1) 1, Br.of (fun d => ?_) (fun d => ⟨_, cl (hp2.blk hb1) 1, ?_⟩)⟩
 ·refine (yWQ 0 w2).mono ?_
  rintro e w3 ⟨rfl, hp3⟩
  refine ⟨_, _, _, rfl, zQl (hp3.blk hb2) s25.symm rfl rfl fun w4 hb4 hf4 hs4 => ?_⟩
  exact ⟨_, cl hb4 0, _, cl hb4 1, _, cl hb4 2, by unfold zQ3; rw [if_pos (zQ6 d)], hp1.trans ((hp2.trans hp3).andNew hf4 fun i hi => by omega)⟩
 ·refine zQl hb2 s25.symm rfl rfl fun w3 hb3 hf3 hs3 => ?_
  exact ⟨_, cl hb3 0, _, cl hb3 1, _, cl hb3 2, by unfold zQ3; rw [if_neg (zQm d)], hp1.trans (hp2.andNew hf3 fun i hi => by omega)⟩
def zWi (l : List Fld) : List Val := if zQV l = 0 then l.map zQ3 else []
theorem zYh {α β : Type} (g : α -> β) {l : List α} {k : Nat} {x : α} (h : l[k]? = some x) : (l.take (k + 1)).map g = (l.take k).map g ++ [g x] := by
 rw [zQO h, List.map_append]; rfl
theorem yKY {w : World} {s : SV} {l : List Fld} (h : zXI w s l) (hl : Lim.ok l) : Calls prog 81 #[.slice s.a s.len s.cap] w fun e w' => ∃ q : SV, e = .returned (.tuple #[.agg #[.bool false, .slice q.a q.len q.cap], .int .i64 (zQV l)]) /\ zZO w w' q (zWi l) /\ Pu w w' := by
 refine yW4 _ w _ (alB fun w1 hp1 hb1 => (zKh (h.pu hp1) hl).mono ?_)
 rintro e w2 ⟨rfl, hp2⟩
 have hb2 := hp2.blk hb1
 refine ⟨_, rfl, Br.of (fun d => zQl hb2 s46.symm rfl rfl fun w3 hb3 hf3 hs3 => ⟨_, cl hb3 0, ⟨none, 0, 0⟩, cl hb3 1, ⟨none, 0, 0⟩, rfl, by unfold zWi; rw [if_neg (zQC d)]; exact zZO.nil w w3, (hp1.trans hp2).andNew hf3 fun i hi => by omega⟩) (fun d => alB fun w3 hp3 hb3 => ?_)⟩
 have hv := zQw d
 have h16 := (zYH hv).2.2.2.1
 have hlen := h.len
 have hp03 := (hp1.trans hp2).trans hp3
 have z1 := hp1.size
 have z2 := hp2.size
 have z3 := hp3.size
 have lt2 : w2.heap.size < w3.heap.size := zQA hb3
 have lt1 : w.heap.size < w1.heap.size := zQA hb1
 refine zQz l.length (fun k t w' => t = (k : Int) /\ ∃ q : SV, w'.heap[w.heap.size]? = some (.cells #[.bool false, .slice none 0 0] 77) /\ w'.heap[w2.heap.size]? = some (.cells #[.bool false, .slice q.a q.len q.cap] 77) /\ zZO w3 w' q ((l.take k).map zQ3) /\ w3.heap.size <= w'.heap.size /\ Pu w w') ⟨rfl, ⟨none, 0, 0⟩, hp3.blk hb2, hb3, zZO.nil w3 w3, Nat.le_refl _, hp03⟩ ?_
 rintro k J t w4 hk ⟨ht, q, a1, a2, a3, a4, hp⟩ hJ
 obtain rfl : t = (k : Int) := ht
 have htl := List.length_take_le k l
 refine Br.of (fun d1 => ?_) (fun d1 => ?_)
 ·have hk2 : k < l.length := by have := zQn d1; omega
  obtain ⟨f, hf⟩ := zXg hk2
  obtain ⟨a, ha, hi, _, _, _, c0, c1, c2, c3⟩ := zZp (h.pu hp) hf
  refine ⟨a, ha, by omega, by omega, _, c0, _, c1, _, c2, _, c3, xQn rfl s23.symm rfl fun w5 hp5 hs5 hb5 => zQf fun w6 hp6 _ => ?_⟩
  have b6 := (hp5.trans hp6).blk a2
  refine ⟨fun u => Pu w6 u, Pu.refl _, q, fun u hu => cl (hu.blk b6) 1, f.name, fun u hu => cl (hu.blk (hp6.blk hb5)) 0, f.kind, fun u hu => cl (hu.blk (hp6.blk hb5)) 1, f.width, fun u hu => cl (hu.blk (hp6.blk hb5)) 2, f.null, fun u hu => cl (hu.blk (hp6.blk hb5)) 3, (yK2 f w6).mono ?_⟩
  rintro e w7 ⟨rfl, hp7⟩
  refine ⟨_, _, _, rfl, hp7, alB fun w8 hp8 hb8 => ⟨hp7.trans hp8, ?_⟩⟩
  have hp48 := (((hp5.trans hp6).trans hp7).trans hp8)
  have z48 := hp48.size
  obtain ⟨q', w9, e9, r9, f9⟩ := (a3.pu hp48).push (by omega) hb8 rfl (by rw [List.length_map]; omega)
  have n2 : ¬ w2.heap.size ∈ zQb q := fun hc => by have := a3.2 _ hc; omega
  have n1 : ¬ w.heap.size ∈ zQb q := fun hc => by have := a3.2 _ hc; omega
  have hb9 := f9.blk (hp48.blk a2) n2
  have hb9' := f9.blk (hp48.blk a1) n1
  refine ⟨q', w9, e9, zQv (o := 1) hb9 (by simp) fun wx ex hbx => ?_⟩
  have fx : Fr (· = w2.heap.size) w9 wx := by rw [ex]; exact Fr.cell w9 _ _ _
  have zx : wx.heap.size = w9.heap.size := by rw [ex]; simp
  have z9 := f9.size
  rw [zQc (by omega) (by omega)]
  refine hJ _ _ hk2 ⟨by omega, q', fx.blk hb9' (by omega), hbx, by rw [zYh _ hf]; exact r9.fr fx fun i hi => by have := r9.2 i hi; omega, by omega, ?_⟩
  have p9 : Pu w w9 := (hp.trans hp48).andNew f9 fun i hi => by have := a3.2 i hi; omega
  exact p9.andNew fx fun i hi => by omega
 ·have hk2 : k = l.length := by have := zQg d1; omega
  subst hk2
  rw [List.take_length] at a3
  refine ⟨_, cl a2 0, q, cl a2 1, zQl a1 s46.symm rfl rfl fun w5 hb5 hf5 hs5 => ⟨_, cl hb5 0, q, cl hb5 1, q, by rw [hv], ?_, hp.andNew hf5 fun i hi => by omega⟩⟩
  unfold zWi; rw [if_pos hv]
  exact (a3.fr hf5 fun i hi => by have := a3.2 i hi; omega).low (by omega)
theorem zYA {w : World} {s : SV} {l : List Fld} (h : zXI w s l) (h16 : l.length <= 16) : Calls prog 125 #[.slice s.a s.len s.cap] w fun e w' => ∃ q : SV, e = .returned (.agg #[.bool false, .slice q.a q.len q.cap]) /\ zZO w w' q (l.map zQ3) /\ Pu w w' := by
 refine yXL _ w _ (alB fun w2 hp2 hb2 => alB fun w3 hp3 hb3 => ?_)
 have hlen := h.len
 have hp03 := hp2.trans hp3
 have z2 := hp2.size
 have z3 := hp3.size
 have lt2 : w2.heap.size < w3.heap.size := zQA hb3
 have lt1 : w.heap.size < w2.heap.size := zQA hb2
 refine zQz l.length (fun k t w' => t = (k : Int) /\ ∃ q : SV, w'.heap[w.heap.size]? = some (.cells #[.bool false, .slice none 0 0] 77) /\ w'.heap[w2.heap.size]? = some (.cells #[.bool false, .slice q.a q.len q.cap] 77) /\ zZO w3 w' q ((l.take k).map zQ3) /\ w3.heap.size <= w'.heap.size /\ Pu w w') ⟨rfl, ⟨none, 0, 0⟩, hp3.blk hb2, hb3, zZO.nil w3 w3, Nat.le_refl _, hp03⟩ ?_
 rintro k J t w4 hk ⟨ht, q, a1, a2, a3, a4, hp⟩ hJ
 obtain rfl : t = (k : Int) := ht
 have htl := List.length_take_le k l
 refine Br.of (fun d1 => zQf fun w6 hp6 _ => ?_) (fun d1 => ?_)
 ·have hk2 : k < l.length := by have := zQn d1; omega
  obtain ⟨f, hf⟩ := zXg hk2
  obtain ⟨a, ha, hi, _, _, _, c0, c1, c2, c3⟩ := zZp ((h.pu hp).pu hp6) hf
  have b6 := hp6.blk a2
  refine ⟨fun u => Pu w6 u, Pu.refl _, q, fun u hu => cl (hu.blk b6) 1, a, ha, by omega, by omega, f.name, fun u hu => hu.cell c0, f.kind, fun u hu => hu.cell c1, f.width, fun u hu => hu.cell c2, f.null, fun u hu => hu.cell c3, (yVH f w6).mono ?_⟩
  rintro e w7 ⟨rfl, hp7⟩
  refine ⟨_, _, _, rfl, hp7, alB fun w8 hp8 hb8 => ⟨hp7.trans hp8, ?_⟩⟩
  have hp48 := ((hp6.trans hp7).trans hp8)
  have z48 := hp48.size
  obtain ⟨q', w9, e9, r9, f9⟩ := (a3.pu hp48).push (by omega) hb8 rfl (by rw [List.length_map]; omega)
  have n2 : ¬ w2.heap.size ∈ zQb q := fun hc => by have := a3.2 _ hc; omega
  have n1 : ¬ w.heap.size ∈ zQb q := fun hc => by have := a3.2 _ hc; omega
  have hb9 := f9.blk (hp48.blk a2) n2
  have hb9' := f9.blk (hp48.blk a1) n1
  refine ⟨q', w9, e9, zQv (o := 1) hb9 (by simp) fun wx ex hbx => ?_⟩
  have fx : Fr (· = w2.heap.size) w9 wx := by rw [ex]; exact Fr.cell w9 _ _ _
  have zx : wx.heap.size = w9.heap.size := by rw [ex]; simp
  have z9 := f9.size
  rw [zQc (by omega) (by omega)]
  refine hJ _ _ hk2 ⟨by omega, q', fx.blk hb9' (by omega), hbx, by rw [zYh _ hf]; exact r9.fr fx fun i hi => by have := r9.2 i hi; omega, by omega, ?_⟩
  have p9 : Pu w w9 := (hp.trans hp48).andNew f9 fun i hi => by have := a3.2 i hi; omega
  exact p9.andNew fx fun i hi => by omega
 ·have hk2 : k = l.length := by have := zQg d1; omega
  subst hk2
  rw [List.take_length] at a3
  refine ⟨_, cl a2 0, q, cl a2 1, zQl a1 s46.symm rfl rfl fun w5 hb5 hf5 hs5 => ⟨_, cl hb5 0, q, cl hb5 1, q, rfl, ?_, hp.andNew hf5 fun i hi => by omega⟩⟩
  exact (a3.fr hf5 fun i hi => by have := a3.2 i hi; omega).low (by omega)
def zKH (l : List Fld) (s : ByteArray) : Option Nat := l.findIdx? fun f => decide (f.name = s)
def yQD (l : List Fld) (s : ByteArray) : Int := ((zKH l s).getD 0 : Nat)
theorem yJQ {w : World} {s : SV} {l : List Fld} (h : zXI w s l) (nm : ByteArray) : Calls prog 51 #[.slice s.a s.len s.cap, .string nm] w fun e w' => e = .returned (.tuple #[.int .i64 (yQD l nm), .bool (zKH l nm).isSome]) /\ Pu w w' := by
 refine yJ5 _ _ w _ (alB fun w1 hp1 hb1 => ?_)
 have tells : yXx l 105 #[.pointer (some ⟨w.heap.size, 0, none⟩)] (fun f => decide (f.name = nm)) w1 := ⟨by kernel_rfl, fun f hf w2 hp2 => by
  refine yZw _ _ _ _ _ w2 _ (alB fun w3 hp3 hb3 => ⟨_, cl0 hb3, _, cl0 ((hp2.trans hp3).blk hb1), ?_, hp3⟩)
  rw [zZh]⟩
 refine (zW4 (h.pu hp1) tells).mono ?_
 rintro e w2 ⟨rfl, hp2⟩
 refine ⟨_, rfl, _, w2, xXM _ _ _ _ _ _, ?_, hp1.trans hp2⟩
 unfold yQD zKH
 cases l.findIdx? fun f => decide (f.name = nm) with
 | none => rfl
 | some k =>
  dsimp only
  rw [Int.max_eq_left (by omega), decide_eq_true (by omega)]; rfl
theorem zVX {w : World} {s : SV} {l : List Fld} (h : zXI w s l) (nm : ByteArray) : Calls prog 122 #[.slice s.a s.len s.cap, .string nm] w fun e w' => e = .returned (.tuple #[.int .i64 (yQD l nm), .bool (zKH l nm).isSome]) /\ Pu w w' := by
 refine yZA _ _ w _ ?_
 have hlen := h.len
 have hlim := h.lim
 refine zQz l.length (fun k t w' => t = (k : Int) /\ (∀ f ∈ l.take k, decide (f.name = nm) = false) /\ Pu w w') ⟨rfl, by simp, Pu.refl _⟩ ?_
 rintro k J t w2 hk ⟨ht, hno, hp⟩ hJ
 obtain rfl : t = (k : Int) := ht
 refine Br.of (fun d => ?_) (fun d => ?_)
 ·have hk2 : k < l.length := by have := zQn d; omega
  obtain ⟨f, hf⟩ := zXg hk2
  obtain ⟨a, ha, hi, _, _, c, _⟩ := zZp (h.pu hp) hf
  refine ⟨a, ha, by omega, by omega, _, c, ?_⟩
  rw [zZh]
  refine Br.of (fun d1 => ?_) (fun d1 => ?_)
  ·have : zKH l nm = some k := zKF hno hf d1
   refine ⟨?_, hp⟩
   unfold yQD; rw [this]; rfl
  ·rw [zQc (by omega) (by omega)]
   refine hJ _ _ hk2 ⟨by omega, fun f' hf' => ?_, hp⟩
   rw [zQO hf, List.mem_append, List.mem_singleton] at hf'
   rcases hf' with hf' | rfl
   ·exact hno f' hf'
   ·exact d1
 ·have hk2 : k = l.length := by have := zQg d; omega
  subst hk2
  rw [List.take_length] at hno
  have : zKH l nm = none := by unfold zKH; rw [List.findIdx?_eq_none_iff]; exact fun x hx => by rw [hno x hx]
  refine ⟨?_, hp⟩
  unfold yQD; rw [this]; rfl
end Go.Proofs.YtcihcbfcgjepfaaGreatDoor
/- Desks: data, and what each call does with them, in plain words. No condition. -/
namespace Go.Proofs.YtcihcbfcgjepfaaGreatDoor
open Go.Sh Go.RowKit Tryz
structure Usr where
 mode : Int
 at_ : Int
 ch : List (Int × (Rec × Rec))
 ap : List Rec
structure Dsk where
 page : Int
 flds : List Fld
 recs : List Rec
 us : Nat -> Usr
 lk : Int -> Option Int
def Usr.new : Usr := ⟨0, 0, [], []⟩
def Dsk.new (t : Tbl) : Dsk := ⟨t.page, t.fields, t.recs, fun _ => Usr.new, fun _ => none⟩
def Dsk.tbl (σ : Dsk) : Tbl := ⟨σ.page, σ.flds, σ.recs⟩
def Dsk.setU (σ : Dsk) (u : Nat) (x : Usr) : Dsk := { σ with us := fun v => if v = u then x else σ.us v }
def Usr.emp (x : Usr) : Bool := decide (x.ch.length + x.ap.length = 0)
def Usr.rows (x : Usr) : Bool := decide (x.mode = 1) || decide (x.mode = 2)
def isU (u : Int) : Bool := decide (0 <= u) && decide (u < 4)
def modeC (u m : Int) (σ : Dsk) : Int := if ¬ isU u = true then 1 else if m < 0 ∨ m > 4 then 1 else if (σ.us u.toNat).emp = false then 9 else 0
def modeS (u m : Int) (σ : Dsk) : Dsk := if modeC u m σ = 0 then σ.setU u.toNat { σ.us u.toNat with mode := m } else σ
def seenR (σ : Dsk) (u : Nat) (k : Int) : Option Rec :=
 if k < 0 then (σ.us u).ap[(-k - 1).toNat]? else if k < 1 ∨ k > σ.recs.length then none else match AL.get (σ.us u).ch k with
  | some c => some c.2
  | none => σ.recs[(k - 1).toNat]?
def zZ8 (a b c : Val) : Bool := !decide (a = b) && (!decide (c = a) && !decide (c = b))
def zYz (a b c : Bool) : Bool := !decide (a = b) && (!decide (c = a) && !decide (c = b))
def zXL : List Val -> List Val -> List Val -> Bool
 | a :: xs, b :: bs, c :: cs => zZ8 a b c || zXL xs bs cs
 | _, _, _ => false
def zKD (c : Rec × Rec) (r : Rec) : Bool := zYz c.1.gone c.2.gone r.gone || zXL c.1.v c.2.v r.v
theorem zJf (a b c : Bool) : zYz a b c = false := by cases a <;> cases b <;> cases c <;> rfl
def recK (σ : Dsk) (k : Int) : Rec := σ.recs.getD (k - 1).toNat default
def keysU (σ : Dsk) (u : Nat) : List Nat := (List.range σ.recs.length).filter fun i => (AL.get (σ.us u).ch ((i : Int) + 1)).isSome
def clashK (σ : Dsk) (u : Nat) : List Nat := (List.range σ.recs.length).filter fun i => match AL.get (σ.us u).ch ((i : Int) + 1) with
 | some c => zKD c (recK σ ((i : Int) + 1))
 | none => false
def zZQ : List Val -> List Val -> List Val -> List Val
 | a :: xs, b :: bs, c :: cs => (if a = b then c else b) :: zZQ xs bs cs
 | _, _, cs => cs
theorem zKP : ∀ a b c : List Val, (zZQ a b c).length = c.length
 | [], _, c => rfl
 | _ :: _, [], c => rfl
 | _ :: _, _ :: _, [] => rfl
 | a :: xs, b :: bs, c :: cs => by simp [zZQ, zKP xs bs cs]
def zZM (c : Rec × Rec) (r : Rec) : Rec := ⟨if c.1.gone = c.2.gone then r.gone else c.2.gone, zZQ c.1.v c.2.v r.v⟩
def zXb (ch : List (Int × (Rec × Rec))) (l : List Rec) : List Rec := l.mapIdx fun i r => match AL.get ch ((i : Int) + 1) with
 | some c => zZM c r
 | none => r
theorem zXj (ch : List (Int × (Rec × Rec))) (l : List Rec) : (zXb ch l).length = l.length := by simp [zXb]
def busyB (σ : Dsk) (u : Nat) : Bool := (σ.us u).ch.any fun c => match σ.lk c.1 with
 | some v => !decide (v = (u : Int))
 | none => false
def zX2 (u : Nat) (σ : Dsk) : Dsk := { σ.setU u { σ.us u with ch := [], ap := [] } with lk := fun k => if σ.lk k = some (u : Int) then none else σ.lk k }
def storeC (u : Nat) (force : Bool) (σ : Dsk) : Int := if force = false /\ clashK σ u ≠ [] then 13 else if busyB σ u = true then 12 else 0
def storeL (u : Nat) (σ : Dsk) : List Int := (List.range (σ.us u).ap.length).map fun (i : Nat) => ((σ.recs.length : Int) + i) + 1
def storedS (u : Nat) (σ : Dsk) : Dsk :=
 let x := σ.us u
 zX2 u ({ σ with recs := zXb x.ch σ.recs ++ x.ap }.setU u { x with at_ := if x.at_ < 0 then (σ.recs.length : Int) - x.at_ else x.at_ })
def storeS (u : Nat) (force : Bool) (σ : Dsk) : Dsk := if storeC u force σ = 0 then storedS u σ else σ
def leaveC (u : Nat) (σ : Dsk) : Int := if (σ.us u).rows = false ∨ (σ.us u).emp = true then 0 else storeC u false σ
def leaveS (u : Nat) (σ : Dsk) : Dsk := if (σ.us u).rows = false ∨ (σ.us u).emp = true then σ else storeS u false σ
def storeE (u : Int) (force : Bool) (σ : Dsk) : Int := if isU u = true then storeC u.toNat force σ else 1
def storeEL (u : Int) (force : Bool) (σ : Dsk) : List Int := if storeE u force σ = 0 then storeL u.toNat σ else []
def storeES (u : Int) (force : Bool) (σ : Dsk) : Dsk := if isU u = true then storeS u.toNat force σ else σ
def goC (u k : Int) (σ : Dsk) : Int := if ¬ isU u = true then 1 else if seenR σ u.toNat k = none then 4 else if k = (σ.us u.toNat).at_ then 0 else leaveC u.toNat σ
def goS (u k : Int) (σ : Dsk) : Dsk := if goC u k σ ≠ 0 then σ else
 let σ' := if k = (σ.us u.toNat).at_ then σ else leaveS u.toNat σ
 σ'.setU u.toNat { σ'.us u.toNat with at_ := k }
def allN (σ : Dsk) : Nat := σ.recs.length + ((σ.us 0).ap.length + (σ.us 1).ap.length + (σ.us 2).ap.length + (σ.us 3).ap.length)
def appC (u : Int) (σ : Dsk) : Int := if ¬ isU u = true then 1 else if leaveC u.toNat σ ≠ 0 then leaveC u.toNat σ else if 300 <= allN (leaveS u.toNat σ) then 3 else 0
def blankR (σ : Dsk) : Rec := ⟨false, σ.flds.map zQ3⟩
def appendedS (u : Nat) (σ : Dsk) : Dsk := if (σ.us u).mode = 0 then { σ with recs := σ.recs ++ [blankR σ] }.setU u { σ.us u with at_ := (σ.recs.length : Int) + 1 } else
 σ.setU u { σ.us u with ap := (σ.us u).ap ++ [blankR σ], at_ := -((σ.us u).ap.length : Int) - 1 }
def appS (u : Int) (σ : Dsk) : Dsk := if ¬ isU u = true then σ else if leaveC u.toNat σ ≠ 0 then σ else if 300 <= allN (leaveS u.toNat σ) then leaveS u.toNat σ else appendedS u.toNat (leaveS u.toNat σ)
def appN (u : Int) (σ : Dsk) : Int := if appC u σ = 0 then ((appS u σ).us u.toNat).at_ else 0
def lockC (u : Nat) (σ : Dsk) : Int := let x := σ.us u
 if x.mode = 2 ∨ x.mode = 4 ∨ x.at_ < 0 then 0 else match σ.lk x.at_ with
  | some v => if v = (u : Int) then 0 else 12
  | none => 0
def lockS (u : Nat) (σ : Dsk) : Dsk := let x := σ.us u
 if x.mode = 2 ∨ x.mode = 4 ∨ x.at_ < 0 ∨ x.mode = 0 then σ else { σ with lk := fun k => if k = x.at_ then some (u : Int) else σ.lk k }
def alterS (u : Nat) (f : Rec -> Rec) (σ : Dsk) : Dsk := let x := σ.us u
 if x.at_ < 0 then σ.setU u { x with ap := x.ap.modify (-x.at_ - 1).toNat f }
 else if x.mode = 0 then { σ with recs := σ.recs.modify (x.at_ - 1).toNat f }
 else let c := (AL.get x.ch x.at_).getD (recK σ x.at_, recK σ x.at_)
  (lockS u σ).setU u { x with ch := AL.put x.ch x.at_ (c.1, f c.2) }
def setVal (i : Nat) (v : Val) (r : Rec) : Rec := { r with v := r.v.set i v }
def zZD (g : Bool) (r : Rec) : Rec := { r with gone := g }
def setC (u : Int) (field : ByteArray) (v : Val) (σ : Dsk) : Int := if ¬ isU u = true then 1 else if (σ.us u.toNat).at_ = 0 then 9 else match zKH σ.flds field with
 | none => 4
 | some i => if (zZ9 (σ.flds.getD i default) σ.page v).2 ≠ 0 then (zZ9 (σ.flds.getD i default) σ.page v).2 else lockC u.toNat σ
def setS (u : Int) (field : ByteArray) (v : Val) (σ : Dsk) : Dsk := if setC u field v σ = 0 then match zKH σ.flds field with
 | none => σ
 | some i => alterS u.toNat (setVal i (zZ9 (σ.flds.getD i default) σ.page v).1) σ
 else σ
def markC (u : Int) (σ : Dsk) : Int := if ¬ isU u = true then 1 else if (σ.us u.toNat).at_ = 0 then 9 else lockC u.toNat σ
def markS (u : Int) (g : Bool) (σ : Dsk) : Dsk := if markC u σ = 0 then alterS u.toNat (zZD g) σ else σ
def valueR (σ : Dsk) (r : Option Rec) (field : ByteArray) : Val × Int := match r, zKH σ.flds field with
 | some r, some i => (r.v.getD i noV, 0)
 | _, _ => (noV, 4)
def getR (u k : Int) (field : ByteArray) (σ : Dsk) : Val × Int := if ¬ isU u = true then (noV, 1) else valueR σ (seenR σ u.toNat k) field
def oldRec (σ : Dsk) (u : Nat) (k : Int) : Option Rec := (seenR σ u k).map fun r => if k < 0 then blankR σ else match AL.get (σ.us u).ch k with
 | some c => c.1
 | none => r
def oldR (u k : Int) (field : ByteArray) (σ : Dsk) : Val × Int := if ¬ isU u = true then (noV, 1) else valueR σ (oldRec σ u.toNat k) field
def nowR (k : Int) (field : ByteArray) (σ : Dsk) : Val × Int := if k < 1 ∨ k > σ.recs.length then (noV, 4) else valueR σ (some (recK σ k)) field
def changedL (u : Int) (σ : Dsk) : List Int := if isU u = true then (keysU σ u.toNat).map (fun (i : Nat) => (i : Int) + 1) ++ (List.range (σ.us u.toNat).ap.length).map (fun (i : Nat) => -(i : Int) - 1) else []
def clashesL (u : Int) (σ : Dsk) : List Int := if isU u = true then (clashK σ u.toNat).map (fun (i : Nat) => (i : Int) + 1) else []
def uC (u : Int) : Int := if isU u = true then 0 else 1
def lockedR (k : Int) (σ : Dsk) : Int × Bool × Int := if k < 1 ∨ k > σ.recs.length then (0, false, 4) else ((σ.lk k).getD 0, (σ.lk k).isSome, 0)
def revertU (u : Nat) (σ : Dsk) : Dsk := zX2 u (σ.setU u { σ.us u with at_ := if (σ.us u).at_ < 0 then 0 else (σ.us u).at_ })
def revertN (u : Int) (σ : Dsk) : Nat := if isU u = true then (σ.us u.toNat).ch.length + (σ.us u.toNat).ap.length else 0
def revertS (u : Int) (σ : Dsk) : Dsk := if isU u = true then revertU u.toNat σ else σ
def fallS (u : Int) (σ : Dsk) : Dsk := if isU u = true then let σ' := revertU u.toNat σ; σ'.setU u.toNat { σ'.us u.toNat with mode := 0, at_ := 0 } else σ
end Go.Proofs.YtcihcbfcgjepfaaGreatDoor
