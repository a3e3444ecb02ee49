import Derived.Test.YtcihcbfcgjepfaaGreatDoorBfOwG
/- Desks: the reference's Set, Mark, Revert, Fall. No condition but those stated. -/
set_option maxRecDepth 100000
set_option linter.unusedVariables false
set_option linter.unusedSimpArgs false
namespace Go.Proofs.YtcihcbfcgjepfaaGreatDoor
open Go.Sh Go.RowKit Tryz
variable {w w' : World} {d d' : zQr} {val : Nat -> List Val}
theorem zQ1.spot {val' val'' : Nat -> List Val} {d'' : zQr} {w'' : World} (h : zQ1 w w' d d' val') (h2 : zQs w'' d'' val'') (hf : Fr (Own d') w' w'') (ho : d''.o = d'.o) (hS : d''.S = d'.S) : zQ1 w w'' d d'' val'' :=
 h.trans ⟨h2, hf, fun b hb => .inl (by rw [← ho]; exact hb), hS⟩
theorem rSet_c (h : zQs w d val) (hI : Inv (zQa d val)) (hM : Md (zQa d val)) (u : Int) (field : ByteArray) (v : Val) :
  Calls prog 64 #[d.ptr, .int .i64 u, .string field, zZc v] w fun e w' => e = .returned (.int .i64 (setC u field v (zQa d val))) /\ ∃ d' val', zQ1 w w' d d' val' /\ zQa d' val' = setS u field v (zQa d val) := by
 refine yWm _ u field _ _ _ w _ (alB fun w1 hp1 hb1 => Calls.mono (zVU u w1) ?_)
 rintro e w2 ⟨rfl, rfl⟩
 have z1 : w.heap.size < w2.heap.size := zQA hb1
 have bad : ∀ {w3 : World} (n : Int), Pu w2 w3 -> setC u field v (zQa d val) = n -> n ≠ 0 -> Ending.returned (.int .i64 n) = .returned (.int .i64 (setC u field v (zQa d val))) /\ ∃ d' val', zQ1 w w3 d d' val' /\ zQa d' val' = setS u field v (zQa d val) := fun {w3} n hp hn h0 =>
  ⟨by rw [hn], d, val, zQ1.pu h (hp1.trans hp), by rw [setS, hn, if_neg h0]⟩
 refine ⟨_, rfl, Br.of (fun c => ?_) (fun c => ?_)⟩
 ·have hu : ¬ isU u = true := by simpa using c
  exact bad 1 (Pu.refl _) (by rw [setC, if_pos hu]) (by decide)
 have hu : isU u = true := by simpa using c
 obtain ⟨n, rfl, hn⟩ := zQS hu
 have h2 := h.pu hp1
 have eA : ((zQa d val).us n).at_ = d.at_ n := rfl
 refine ⟨(u4 hn).1, (u4 hn).2, d.at_ n, h2.uAt hn, Br.of (fun c1 => ?_) (fun c1 => ?_)⟩
 ·have c1 : d.at_ n = 0 := zQ6 c1
  exact bad 9 (Pu.refl _) (by rw [setC, if_neg (by simp [hu]), zQL, eA, if_pos c1]) (by decide)
 have c1 : d.at_ n ≠ 0 := zQm c1
 refine ⟨d.fs, h2.flds, (zVX (h2.fld hI.vf) field).mono ?_⟩
 rintro e w7 ⟨rfl, hp7⟩
 have eC : setC (n : Int) field v (zQa d val) = match zKH d.flds field with | none => 4 | some i => if (zZ9 (d.flds.getD i default) d.page v).2 ≠ 0 then (zZ9 (d.flds.getD i default) d.page v).2 else lockC n (zQa d val) := by
  rw [setC, if_neg (by simp [hu]), zQL, eA, if_neg c1]; rfl
 refine ⟨_, _, rfl, Br.of (fun c2 => ?_) (fun c2 => ?_)⟩
 ·have c2 : zKH d.flds field = none := by simpa using c2
  rw [c2] at eC
  exact bad 4 hp7 eC (by decide)
 have c2 : (zKH d.flds field).isSome = true := by simpa using c2
 obtain ⟨i, hi⟩ := Option.isSome_iff_exists.1 c2
 have hil := zWC hi
 obtain ⟨fd, hfd⟩ := zXg hil
 have eD : d.flds.getD i default = fd := by rw [List.getD_eq_getElem?_getD, hfd]; rfl
 have eK : yQD d.flds field = (i : Int) := by rw [yQD, hi]; rfl
 rw [hi] at eC
 simp only [eD] at eC
 rw [eK]
 refine zQf fun w9 hp9 _ => ?_
 have hp29 := hp7.trans hp9
 have h9 := h2.pu hp29
 have hb9 := hp29.blk hb1
 obtain ⟨a, ea, _, _, _, _, f0, f1, f2, f3⟩ := zZp (h9.fld hI.vf) hfd
 have hfl := (h9.fld hI.vf).len
 -- behind the zQJ value
 have tail : ∀ {w15 : World}, Pu w9 w15 -> ∀ {r : Nat}, w.heap.size <= r -> w15.heap[r]? = some (.cells #[.int .i64 (zZ9 fd d.page v).1.kind, .int .i64 (zZ9 fd d.page v).1.n, .string (zZ9 fd d.page v).1.s] 28) ->
   Br ((zZ9 fd d.page v).2 != 0) (Ending.returned (.int .i64 (zZ9 fd d.page v).2) = .returned (.int .i64 (setC (n : Int) field v (zQa d val))) /\ ∃ d' val', zQ1 w w15 d d' val' /\ zQa d' val' = setS (n : Int) field v (zQa d val))
    (Calls prog 123 #[.pointer (some ⟨d.S, 0, none⟩), .int .i64 (n : Int)] w15 fun e w17 => ∃ p61_0 : Option Addr, ∃ n61_1 : Int, e = .returned (.tuple #[.pointer p61_0, .int .i64 n61_1]) /\
     Br (n61_1 != 0) (Ending.returned (.int .i64 n61_1) = .returned (.int .i64 (setC (n : Int) field v (zQa d val))) /\ ∃ d' val', zQ1 w w17 d d' val' /\ zQa d' val' = setS (n : Int) field v (zQa d val))
      (dwE w17 fun w19 => zQi p61_0 fun a20 => ∃ l70 : SV, w19.cell? (a20.add 1) = some (.slice l70.a l70.len l70.cap) /\ ∃ n72_0 : Int, w19.cell? ((⟨r, 0, none⟩ : Addr).add 0) = some (.int .i64 n72_0) /\ ∃ n72_1 : Int, w19.cell? ((⟨r, 0, none⟩ : Addr).add 1) = some (.int .i64 n72_1) /\
       ∃ s72_2 : ByteArray, w19.cell? ((⟨r, 0, none⟩ : Addr).add 2) = some (.string s72_2) /\ ∃ a21 : Addr, l70.a = some a21 /\ 0 <= (i : Int) /\ (i : Int) < ((l70.len : Nat) : Int) /\
       stA prog 28 (a21.add ((i : Int).toNat * 3)) #[.int .i64 n72_0, .int .i64 n72_1, .string s72_2] w19 fun w22 => Ending.returned (.int .i64 0) = .returned (.int .i64 (setC (n : Int) field v (zQa d val))) /\ ∃ d' val', zQ1 w w22 d d' val' /\ zQa d' val' = setS (n : Int) field v (zQa d val))) := fun {w15} hp15 {r} hzr hr => by
  have hp215 := hp29.trans hp15
  have h15 := h2.pu hp215
  refine Br.of (fun c3 => ?_) (fun c3 => ?_)
  ·have c3 := zQC c3
   exact bad _ hp215 (by rw [eC, if_pos c3]) c3
  have c3 := zQw c3
  rw [if_neg (by simp [c3])] at eC
  refine Calls.mono (yWP h15 hI hn c1 (hM n hn)) ?_
  rintro e w17 ⟨p, rfl, hP⟩
  refine ⟨p, _, rfl, ?_⟩
  rcases hP with ⟨hc, hp17⟩ | ⟨hc, a, d', val', s, x, rfl, hL, hok, hlen, hf⟩
  ·refine Br.of (fun _ => bad _ (hp215.trans hp17) eC hc) (fun c4 => absurd (zQw c4) hc)
  refine Br.of (fun c4 => absurd hc (zQC c4)) (fun _ => zQf fun w19 hp19 _ => ?_)
  have nr : d.o r = none := h.bd.out hzr
  have h19 := hL.sys.pu hp19
  have hr19 := hp19.blk (hL.fr.blk hr (fun e => e nr))
  obtain ⟨b, hb, hj, hst⟩ := zKV.set hn hok h19 (j := i) (by rw [hlen]; exact hil) (zZ9 fd d.page v).1 (K := fun w22 => Ending.returned (.int .i64 0) = .returned (.int .i64 (setC (n : Int) field v (zQa d val))) /\ ∃ d' val', zQ1 w w22 d d' val' /\ zQa d' val' = setS (n : Int) field v (zQa d val)) fun w22 val2 h22 hf22 ha22 => by
   refine ⟨by rw [eC, hc], d', val2, (((zQ1.pu h (hp1.trans hp215)).trans hL).putU hp19).spot h22 hf22 rfl rfl, ?_⟩
   rw [ha22, hf]
   unfold setS
   rw [eC, if_pos hc]
   have e0 : (zQa d val).flds = d.flds := rfl
   have e1 : (zQa d val).page = d.page := rfl
   rw [e0, e1, hi]
   simp only [eD, zQL]
  refine ⟨x.s, zKV.cell hn hok h19, _, cl hr19 0, _, cl hr19 1, _, cl hr19 2, b, hb, by omega, by omega, ?_⟩
  rw [zQL]
  exact hst
 refine ⟨fun y => Pu w9 y, Pu.refl _, d.fs, fun y hy => hy.cell h9.flds, a, ea, by omega, by omega, fd.name, fun y hy => hy.cell f0, fd.kind, fun y hy => hy.cell f1, fd.width, fun y hy => hy.cell f2, fd.null, fun y hy => hy.cell f3, d.page, fun y hy => hy.cell h9.page, v.kind, fun y hy => cl (hy.blk hb9) 0, v.n, fun y hy => cl (hy.blk hb9) 1, v.s, fun y hy => cl (hy.blk hb9) 2, ?_, ?_⟩
 ·refine (xXk fd d.page v w9).mono ?_
  rintro e w13 ⟨rfl, hp13⟩
  refine ⟨_, _, _, _, rfl, alB fun w14 hp14 hb14 => zQl hb14 zKR.symm rfl rfl fun w15 hb15 hf15 _ => ?_⟩
  have z9 := hp29.size
  have z13 := hp13.size
  exact tail ((hp13.trans hp14).andNew hf15 fun i hi => by rw [show i = w13.heap.size from hi]; exact z13) (by omega) hb15
 ·refine alB fun w24 hp24 hb24 => ⟨hp24, (xXk fd d.page v w24).mono ?_⟩
  rintro e w25 ⟨rfl, hp25⟩
  refine ⟨_, _, _, _, rfl, zQl (hp25.blk hb24) zKR.symm rfl rfl fun w26 hb26 hf26 _ => ?_⟩
  have z9 := hp29.size
  exact tail ((hp24.trans hp25).andNew hf26 fun i hi => by rw [show i = w9.heap.size from hi]; exact Nat.le_refl _) (by omega) hb26
theorem xZe (h : zQs w d val) (hI : Inv (zQa d val)) (hM : Md (zQa d val)) (u : Int) (g : Bool) :
  Calls prog 65 #[d.ptr, .int .i64 u, .bool g] w fun e w' => e = .returned (.int .i64 (markC u (zQa d val))) /\ ∃ d' val', zQ1 w w' d d' val' /\ zQa d' val' = markS u g (zQa d val) := by
 refine yWy _ u g w _ (Calls.mono (zVU u w) ?_)
 rintro e w1 ⟨rfl, rfl⟩
 have bad : ∀ {w3 : World} (n : Int), Pu w1 w3 -> markC u (zQa d val) = n -> n ≠ 0 -> Ending.returned (.int .i64 n) = .returned (.int .i64 (markC u (zQa d val))) /\ ∃ d' val', zQ1 w1 w3 d d' val' /\ zQa d' val' = markS u g (zQa d val) := fun {w3} n hp hn h0 =>
  ⟨by rw [hn], d, val, zQ1.pu h hp, by rw [markS, hn, if_neg h0]⟩
 refine ⟨_, rfl, Br.of (fun c => ?_) (fun c => ?_)⟩
 ·have hu : ¬ isU u = true := by simpa using c
  exact bad 1 (Pu.refl _) (by rw [markC, if_pos hu]) (by decide)
 have hu : isU u = true := by simpa using c
 obtain ⟨n, rfl, hn⟩ := zQS hu
 have eA : ((zQa d val).us n).at_ = d.at_ n := rfl
 refine ⟨(u4 hn).1, (u4 hn).2, d.at_ n, h.uAt hn, Br.of (fun c1 => ?_) (fun c1 => ?_)⟩
 ·have c1 : d.at_ n = 0 := zQ6 c1
  exact bad 9 (Pu.refl _) (by rw [markC, if_neg (by simp [hu]), zQL, eA, if_pos c1]) (by decide)
 have c1 : d.at_ n ≠ 0 := zQm c1
 have eC : markC (n : Int) (zQa d val) = lockC n (zQa d val) := by rw [markC, if_neg (by simp [hu]), zQL, eA, if_neg c1]
 refine Calls.mono (yWP h hI hn c1 (hM n hn)) ?_
 rintro e w5 ⟨p, rfl, hP⟩
 refine ⟨p, _, rfl, ?_⟩
 rcases hP with ⟨hc, hp5⟩ | ⟨hc, a, d', val', s, x, rfl, hL, hok, hlen, hf⟩
 ·refine Br.of (fun _ => bad _ hp5 eC hc) (fun c4 => absurd (zQw c4) hc)
 refine Br.of (fun c4 => absurd hc (zQC c4)) (fun _ => ?_)
 show st1 a _ _ _
 refine zKV.mark hn hok hL.sys g fun w8 d8 h8 hf8 ho8 hS8 ha8 => ?_
 refine ⟨by rw [eC, hc], d8, val', hL.spot h8 hf8 ho8 hS8, ?_⟩
 rw [ha8, hf]
 unfold markS
 rw [eC, if_pos hc, zQL]
theorem zVb (hst : w.heap[d.S]? = some (.cells (zZz d) 125)) {l : List (Int × Int)} (hl : zQ8 w zXu zXu d.L l) (hLS : d.L ≠ d.S) {u : Nat} (hu : u < 4) (hN : d.rs.len <= 1000) (hlr : ∀ k v, AL.get l k = some v -> 1 <= k /\ k <= d.rs.len /\ 1 <= v) :
  Calls prog 127 #[d.ptr, .int .i64 (u : Int)] w fun e w' => e = .returned (.tuple #[]) /\ w'.heap[d.S]? = some (.cells (zZz { d with cs := fun v => if v = u then ⟨none, 0, 0⟩ else d.cs v, asv := fun v => if v = u then ⟨none, 0, 0⟩ else d.asv v }) 125) /\
   Fr (fun b => b = d.S ∨ b = d.L) w w' /\ ∃ l', zQ8 w' zXu zXu d.L l' /\ ∀ k, AL.get l' k = if AL.get l k = some ((u : Int) + 1) then none else AL.get l k := by
 refine yZr _ _ w _ (zQf fun w1 hp1 _ => ?_)
 have hst1 := hp1.blk hst
 refine ⟨(u4 hu).1, (u4 hu).2, ?_⟩
 rw [zQ9, zJp, zQe]
 refine zQv hst1 (by show 3 + u * 4 + 2 < 20; omega) fun w2 hw2 hb2 => ?_
 have hf2 : Fr (· = d.S) w1 w2 := by rw [hw2]; exact Fr.cell w1 _ _ _
 have hb2 : w2.heap[d.S]? = some (.cells (zZz { d with cs := fun v => if v = u then ⟨none, 0, 0⟩ else d.cs v }) 125) := by
  rw [hb2]
  exact congrArg (fun c => some (Obj.cells c 125)) (yQt hu ⟨none, 0, 0⟩)
 refine ⟨(u4 hu).1, (u4 hu).2, ?_⟩
 rw [zQe]
 refine zQv hb2 (by show 3 + u * 4 + 3 < 20; omega) fun w3 hw3 hb3 => ?_
 have hf3 : Fr (· = d.S) w2 w3 := by rw [hw3]; exact Fr.cell w2 _ _ _
 have hb3 : w3.heap[d.S]? = some (.cells (zZz { d with cs := fun v => if v = u then ⟨none, 0, 0⟩ else d.cs v, asv := fun v => if v = u then ⟨none, 0, 0⟩ else d.asv v }) 125) := by
  rw [hb3]
  exact congrArg (fun c => some (Obj.cells c 125)) (yQ8 (d := { d with cs := fun v => if v = u then ⟨none, 0, 0⟩ else d.cs v }) hu ⟨none, 0, 0⟩)
 have hf13 : Fr (· = d.S) w1 w3 := hf2.trans hf3 fun i hi _ => hi
 have hl3 : zQ8 w3 zXu zXu d.L l := (hl.pu hp1).fr hf13 hLS
 refine zQz d.rs.len (fun k t w' => t = (k : Int) + 1 /\ ∃ lk : List (Int × Int), zQ8 w' zXu zXu d.L lk /\ (∀ x, AL.get lk x = if 1 <= x /\ x <= (k : Int) /\ AL.get l x = some ((u : Int) + 1) then none else AL.get l x) /\ Fr (· = d.L) w3 w' /\ w'.heap[d.S]? = some (.cells (zZz { d with cs := fun v => if v = u then ⟨none, 0, 0⟩ else d.cs v, asv := fun v => if v = u then ⟨none, 0, 0⟩ else d.asv v }) 125))
  ⟨rfl, l, hl3, fun x => by rw [if_neg (by omega)], Fr.refl _ _, hb3⟩ ?_
 rintro k J t w4 hkn ⟨ht, lk, hm4, hg4, hf4, hb4⟩ hJ
 obtain rfl : t = (k : Int) + 1 := ht
 have cellR : w4.cell? ((⟨d.S, 0, none⟩ : Addr).add 2) = some (.slice d.rs.a d.rs.len d.rs.cap) := by rw [zQe, zQo hb4]; rfl
 have cellL : w4.cell? ((⟨d.S, 0, none⟩ : Addr).add 19) = some (.map (some d.L)) := by rw [zQe, zQo hb4]; rfl
 refine ⟨d.rs, cellR, Br.of (fun d1 => ?_) (fun d1 => ?_)⟩
 ·have hk2 : k < d.rs.len := by have := zQn d1; omega
  refine ⟨some d.L, cellL, _, w4, zWb hm4 _, ?_⟩
  have e1 : AL.get lk ((k : Int) + 1) = AL.get l ((k : Int) + 1) := by rw [hg4, if_neg (by omega)]
  rw [zQc (n := (u : Int) + 1) (by omega) (by omega)]
  refine Br.of (fun c => ?_) (fun c => ?_)
  ·have c := zQ6 c
   obtain ⟨w5, hd, hm5, hf5, hs5⟩ := hm4.del (P := prog) (r0 := 0) (tys := #[80, 3]) zV8 rfl xZd ((k : Int) + 1)
   refine ⟨some d.L, cellL, w5, hd, ?_⟩
   rw [zQc (by omega) (by omega)]
   refine hJ _ _ hk2 ⟨by omega, AL.del lk ((k : Int) + 1), hm5, fun x => ?_, hf4.trans hf5 fun i hi _ => hi, hf5.blk hb4 (Ne.symm hLS)⟩
   rw [AL.get_del hm4.nodup]
   by_cases e : (k : Int) + 1 = x
   ·rw [if_pos e]
    rw [e] at c e1
    rw [e1] at c
    cases hq : AL.get l x with
    | none => rw [hq] at c; exfalso; have c : (0 : Int) = (u : Int) + 1 := c; omega
    | some v =>
     rw [hq] at c
     have c : v = (u : Int) + 1 := c
     rw [if_pos ⟨by omega, by omega, by rw [c]⟩]
   ·rw [if_neg e, hg4]
    by_cases q : 1 <= x /\ x <= (k : Int) /\ AL.get l x = some ((u : Int) + 1)
    ·rw [if_pos q, if_pos ⟨q.1, by omega, q.2.2⟩]
    ·rw [if_neg q, if_neg fun q2 => q ⟨q2.1, by omega, q2.2.2⟩]
  ·have c := zQm c
   rw [zQc (by omega) (by omega)]
   refine hJ _ _ hk2 ⟨by omega, lk, hm4, fun x => ?_, hf4, hb4⟩
   rw [hg4]
   by_cases q : 1 <= x /\ x <= (k : Int) /\ AL.get l x = some ((u : Int) + 1)
   ·rw [if_pos q, if_pos ⟨q.1, by omega, q.2.2⟩]
   ·rw [if_neg q, if_neg fun q2 => ?_]
    by_cases e : (k : Int) + 1 = x
    ·rw [e] at e1 c
     rw [e1, q2.2.2] at c
     exact c rfl
    ·exact q ⟨q2.1, by omega, q2.2.2⟩
 ·have hk2 : k = d.rs.len := by have := zQg d1; omega
  subst hk2
  refine ⟨rfl, hb4, ((Fr.pu hp1 : Fr (fun b => b = d.S ∨ b = d.L) w w1).trans hf13 fun i hi _ => .inl hi).trans hf4 fun i hi _ => .inr hi, lk, hm4, fun x => ?_⟩
  rw [hg4]
  by_cases q : AL.get l x = some ((u : Int) + 1)
  ·have := hlr x _ q
   rw [if_pos q, if_pos ⟨this.1, this.2.1, q⟩]
  ·rw [if_neg q, if_neg fun q2 => q q2.2.2]
theorem zYl (h : zQs w d val) (hlr : ∀ k v, d.lk k = some v -> 1 <= k /\ k <= d.rh.length /\ 0 <= v /\ v < 4) {l : List (Int × Int)} (hk : ∀ k, AL.get l k = (d.lk k).map (· + 1)) : ∀ k v, AL.get l k = some v -> 1 <= k /\ k <= d.rh.length /\ 1 <= v := fun k v hv => by
 rw [hk] at hv
 obtain ⟨x, hx, rfl⟩ := Option.map_eq_some_iff.1 hv
 have := hlr k x hx
 exact ⟨this.1, this.2.1, by omega⟩
theorem zVZ (hlr : ∀ k v, d.lk k = some v -> 1 <= k /\ k <= d.rh.length /\ 0 <= v /\ v < 4) (sd : d.sd = true) {u : Nat} {l l' : List (Int × Int)} (hk : ∀ k, AL.get l k = (d.lk k).map (· + 1)) (hk' : ∀ k, AL.get l' k = if AL.get l k = some ((u : Int) + 1) then none else AL.get l k) (k : Int) :
  AL.get l' k = ((if d.lk k = some (u : Int) then none else d.lk k).map fun v => if d.sd then v + 1 else v) := by
 rw [hk', hk, sd]
 cases hq : d.lk k with
 | none => simp
 | some v =>
  have hv := hlr k v hq
  by_cases e : v = (u : Int)
  ·subst e; simp
  ·have e2 : ¬ v + 1 = (u : Int) + 1 := by omega
   simp [e, e2]
theorem yXw (h : zQs w d val) (hlr : ∀ k v, d.lk k = some v -> 1 <= k /\ k <= d.rh.length /\ 0 <= v /\ v < 4) (hr3 : d.rh.length <= 1000) {u : Nat} (hu : u < 4) :
  Calls prog 127 #[d.ptr, .int .i64 (u : Int)] w fun e w' => e = .returned (.tuple #[]) /\ ∃ d', zQ1 w w' d d' val /\ zQa d' val = zX2 u (zQa d val) := by
 obtain ⟨l, hl, hk⟩ := h.lm
 have hLS : d.L ≠ d.S := fun e => by have := h.bd.oL; rw [e, h.bd.oS] at this; cases this
 have hrl := h.rs_len
 refine (zVb h.st hl hLS hu (by omega) (by rw [hrl]; exact zYl h hlr hk)).mono ?_
 rintro e w4 ⟨rfl, hb4, hF, lk, hm4, hg4⟩
 have ne : ∀ {b : Nat} {κ : zX4}, d.o b = some κ -> κ ≠ .S -> κ ≠ .L -> ¬ (b = d.S ∨ b = d.L) := fun {b κ} hb h1 h2 e => by
  rcases e with e | e
  ·rw [e, h.bd.oS] at hb; exact h1 (Option.some.inj hb).symm
  ·rw [e, h.bd.oL] at hb; exact h2 (Option.some.inj hb).symm
 have hbd := h.bd.genL hu (lk' := fun k => if d.lk k = some (u : Int) then none else d.lk k) (o' := d.o) (rs' := d.rs) (rh' := d.rh) (as' := ⟨none, 0, 0⟩) (ah' := []) (cs' := ⟨none, 0, 0⟩) (ch' := []) (C' := d.C u) hF
  ⟨lk, hm4, zVZ hlr h.sd hk hg4⟩ h.bd.oL (fun b κ hbo k0 k1 k2 k3 k4 => ⟨ne hbo k1 k0, hbo⟩) h.bd.oS (h.bd.rw_.fr hF fun b hb => ne (h.bd.oR b hb) (by simp) (by simp)) h.bd.oR (zQj.nil _ _ _) (by simp [zQb]) (fun e => absurd (e.symm.trans h.sd) (by simp)) (fun _ => ⟨zQj.nil _ _ _, by simp [zQb]⟩) (fun x hx => by
   simp only [List.append_nil, chH, List.flatMap_nil, List.nil_append] at hx
   exact .inl ⟨x, zQK hx, rfl⟩) (by
   have hnd := (yZo hu).1 h.bd.nd
   have e : zXa d u = d.rh ++ (zXa d u).drop d.rh.length := by simp [zXa]
   rw [e] at hnd
   simp only [zKM, chH, List.flatMap_nil, List.nil_append]
   rw [zQt] at hnd
   exact (List.nodup_append.1 hnd).2.1) (fun b hbo => Nat.lt_of_lt_of_le (h.bd.lt b hbo) hF.size)
 refine ⟨rfl, _, ⟨⟨hb4, hbd, h.sd⟩, hF.mono fun i hi _ => ?_, fun b hbo => .inl hbo, rfl⟩, ?_⟩
 ·rcases hi with rfl | rfl
  ·rw [h.bd.oS]; simp
  ·rw [h.bd.oL]; simp
 ·simp only [zQa, zX2, Dsk.setU, Dsk.mk.injEq]
  refine ⟨rfl, rfl, rfl, ?_, rfl⟩
  funext v
  by_cases e : v = u
  ·subst e; simp [zJ2, zQr.gen]
  ·simp [zJ2, zQr.gen, e]
theorem zYi (h : zQs w d val) (hI : Inv (zQa d val)) (u : Int) :
  Calls prog 73 #[d.ptr, .int .i64 u] w fun e w' => e = .returned (.tuple #[.int .i64 (revertN u (zQa d val) : Nat), .int .i64 (uC u)]) /\ ∃ d' val', zQ1 w w' d d' val' /\ zQa d' val' = revertS u (zQa d val) := by
 refine yJA _ u w _ (Calls.mono (zVU u w) ?_)
 rintro e w1 ⟨rfl, rfl⟩
 refine ⟨_, rfl, Br.of (fun c => ?_) (fun c => zQf fun w3 hp3 _ => ?_)⟩
 ·have hu : ¬ isU u = true := by simpa using c
  exact ⟨by rw [revertN, if_neg hu, uC, if_neg hu]; rfl, d, val, zQ1.refl h, by rw [revertS, if_neg hu]⟩
 have hu : isU u = true := by simpa using c
 obtain ⟨n, rfl, hn⟩ := zQS hu
 have h3 := h.pu hp3
 have hcl := h.cs_len hn
 have hal := h.as_len hn
 have hc3 := hI.chl hn
 have ha3 := hI.ah hn
 have hr3 := hI.rh
 have eA : ((zQa d val).us n).at_ = d.at_ n := rfl
 have e0 : (zQa d val).recs.length = d.rh.length := by simp [zQa]
 have hlr : ∀ k v, d.lk k = some v -> 1 <= k /\ k <= d.rh.length /\ 0 <= v /\ v < 4 := fun k v hv => by
  have := hI.lr k v hv
  rw [e0] at this; exact this
 have eN : IntKind.i64.wrap ((((d.cs n).len : Nat) : Int) + (((d.asv n).len : Nat) : Int)) = (revertN (n : Int) (zQa d val) : Nat) := by
  rw [zQc (by omega) (by omega), revertN, if_pos hu, zQL, zVc, zX0]; omega
 have eU : uC (n : Int) = 0 := by rw [uC, if_pos hu]
 refine ⟨(u4 hn).1, (u4 hn).2, d.cs n, h3.uCs hn, (u4 hn).1, (u4 hn).2, d.asv n, h3.uAp hn, (u4 hn).1, (u4 hn).2, d.at_ n, h3.uAt hn, Br.of (fun c1 => ?_) (fun c1 => ?_)⟩
 ·have c1 := zQn c1
  refine ⟨(u4 hn).1, (u4 hn).2, ?_⟩
  rw [zJp, zQe]
  refine h3.own (d' := d.withAt n 0) (by omega) (zKz hn 0) rfl rfl (fun x hb => hb.same _ _) fun w8 h8 hf8 hs8 => ?_
  refine Calls.mono (yXw h8 hlr (by show d.rh.length <= 1000; omega) hn) ?_
  rintro e w9 ⟨rfl, d', hL, habs⟩
  refine ⟨rfl, by rw [eN, eU], d', val, ((zQ1.pu h hp3).trans (zQ1.cell h3 h8 hf8 rfl rfl)).trans hL, ?_⟩
  rw [habs, zVu, revertS, if_pos hu, zQL, revertU, eA, if_pos c1]
 ·have c1 := zQg c1
  refine Calls.mono (yXw h3 hlr (by omega) hn) ?_
  rintro e w9 ⟨rfl, d', hL, habs⟩
  refine ⟨rfl, by rw [eN, eU], d', val, (zQ1.pu h hp3).trans hL, ?_⟩
  rw [habs, revertS, if_pos hu, zQL, revertU, eA, if_neg c1]
  congr 1
  simp only [Dsk.setU]
  have : (fun v => if v = n then { (zQa d val).us n with at_ := d.at_ n } else (zQa d val).us v) = (zQa d val).us := by
   funext v
   by_cases e : v = n
   ·subst e; rw [if_pos rfl, ← eA]
   ·rw [if_neg e]
  rw [this]
theorem bs122 : zXr prog 122 = 4 := by kernel_rfl
theorem xZc (h : zQs w d val) (hI : Inv (zQa d val)) (u : Int) :
  Calls prog 74 #[d.ptr, .int .i64 u] w fun e w' => e = .returned (.int .i64 (uC u)) /\ ∃ d' val', zQ1 w w' d d' val' /\ zQa d' val' = fallS u (zQa d val) := by
 refine yWA _ u w _ ((zYi h hI u).mono ?_)
 rintro e w1 ⟨rfl, d', val', hL, habs⟩
 refine ⟨_, _, rfl, Br.of (fun c => ?_) (fun c => ?_)⟩
 ·have hu : ¬ isU u = true := zJW c
  exact ⟨rfl, d', val', hL, by rw [habs, revertS, if_neg hu, fallS, if_neg hu]⟩
 have hu := zJM c
 obtain ⟨n, rfl, hn⟩ := zQS hu
 have eU : uC (n : Int) = 0 := by rw [uC, if_pos hu]
 have hU : zQa d' val' = revertU n (zQa d val) := by rw [habs, revertS, if_pos hu, zQL]
 have hch : d'.ch n = [] := by
  have h1 := congrArg (fun σ : Dsk => (σ.us n).ch) hU
  have h2 : ((revertU n (zQa d val)).us n).ch = [] := by simp [revertU, zX2, Dsk.setU]
  have h3 : (d'.ch n).map (toC val') = [] := h1.trans h2
  exact List.map_eq_nil_iff.1 h3
 have hah : d'.ah n = [] := by
  have h1 := congrArg (fun σ : Dsk => (σ.us n).ap) hU
  have h2 : ((revertU n (zQa d val)).us n).ap = [] := by simp [revertU, zX2, Dsk.setU]
  have h3 : (d'.ah n).map (toR val') = [] := h1.trans h2
  exact List.map_eq_nil_iff.1 h3
 refine ⟨(u4 hn).1, (u4 hn).2, bs122.symm, rfl, ?_⟩
 rw [← show (⟨d'.S, 0, none⟩ : Addr) = ⟨d.S, 0, none⟩ by rw [hL.ptr], zJp]
 have h1 := hL.sys
 show st1 (⟨d'.S, 3 + n * 4, none⟩ : Addr) (.int .i64 0) w1 fun w2 => st1 ((⟨d'.S, 3 + n * 4, none⟩ : Addr).add 1) (.int .i64 0) w2 fun w3 => st1 ((⟨d'.S, 3 + n * 4, none⟩ : Addr).add 2) (.slice none 0 0) w3 fun w4 => st1 ((⟨d'.S, 3 + n * 4, none⟩ : Addr).add 3) (.slice none 0 0) w4 _
 refine h1.own (d' := d'.withMode n 0) (by omega) (zYo hn 0) rfl rfl (fun x hb => hb.same _ _) fun w2 h2 hf2 hs2 => ?_
 rw [zQe]
 refine h2.own (d' := (d'.withMode n 0).withAt n 0) (by show 3 + n * 4 + 1 < 20; omega) (zKz (d := d'.withMode n 0) hn 0) rfl rfl (fun x hb => hb.same _ _) fun w3 h3 hf3 hs3 => ?_
 rw [zQe]
 refine h3.own (d' := { (d'.withMode n 0).withAt n 0 with cs := fun v => if v = n then ⟨none, 0, 0⟩ else d'.cs v }) (by show 3 + n * 4 + 2 < 20; omega) (yQt (d := (d'.withMode n 0).withAt n 0) hn ⟨none, 0, 0⟩) rfl rfl (fun x hb => ⟨hb.fl, hb.rw_, hb.aw, hb.mp, fun e v hv => ?_, hb.lm, hb.vr, hb.low, hb.nd, hb.oS, hb.oL, hb.oC, fun e v hv b hbm => ?_, hb.oF, hb.oR, hb.oA, hb.oV, hb.lt⟩) fun w4 h4 hf4 hs4 => ?_
 ·by_cases q : v = n
  ·subst q
   show zQj x 136 5 (if v = v then ⟨none, 0, 0⟩ else d'.cs v) ((d'.ch v).flatMap chC)
   rw [if_pos rfl, hch]; exact zQj.nil _ _ _
  ·show zQj x 136 5 (if v = n then ⟨none, 0, 0⟩ else d'.cs v) ((d'.ch v).flatMap chC)
   rw [if_neg q]; exact hb.ml e v hv
 ·have hbm : b ∈ zQb (if v = n then ⟨none, 0, 0⟩ else d'.cs v) := hbm
  by_cases q : v = n
  ·rw [if_pos q] at hbm; simp [zQb] at hbm
  ·rw [if_neg q] at hbm; exact hb.oK e v hv b hbm
 rw [zQe]
 refine h4.own (d' := { (d'.withMode n 0).withAt n 0 with cs := fun v => if v = n then ⟨none, 0, 0⟩ else d'.cs v, asv := fun v => if v = n then ⟨none, 0, 0⟩ else d'.asv v }) (by show 3 + n * 4 + 3 < 20; omega) (yQ8 (d := { (d'.withMode n 0).withAt n 0 with cs := fun v => if v = n then ⟨none, 0, 0⟩ else d'.cs v }) hn ⟨none, 0, 0⟩) rfl rfl (fun x hb => ⟨hb.fl, hb.rw_, fun v hv => ?_, hb.mp, hb.ml, hb.lm, hb.vr, hb.low, hb.nd, hb.oS, hb.oL, hb.oC, hb.oK, hb.oF, hb.oR, fun v hv b hbm => ?_, hb.oV, hb.lt⟩) fun w5 h5 hf5 hs5 => ?_
 ·by_cases q : v = n
  ·subst q
   show zQj x 77 2 (if v = v then ⟨none, 0, 0⟩ else d'.asv v) ((d'.ah v).flatMap zJF)
   rw [if_pos rfl, hah]; exact zQj.nil _ _ _
  ·show zQj x 77 2 (if v = n then ⟨none, 0, 0⟩ else d'.asv v) ((d'.ah v).flatMap zJF)
   rw [if_neg q]; exact hb.aw v hv
 ·have hbm : b ∈ zQb (if v = n then ⟨none, 0, 0⟩ else d'.asv v) := hbm
  by_cases q : v = n
  ·rw [if_pos q] at hbm; simp [zQb] at hbm
  ·rw [if_neg q] at hbm; exact hb.oA v hv b hbm
 refine ⟨by rw [eU], _, val', hL.trans ((((zQ1.cell h1 h2 hf2 rfl rfl).trans (zQ1.cell h2 h3 hf3 rfl rfl)).trans (zQ1.cell h3 h4 hf4 rfl rfl)).trans (zQ1.cell h4 h5 hf5 rfl rfl)), ?_⟩
 have e1 : zQa { (d'.withMode n 0).withAt n 0 with cs := fun v => if v = n then ⟨none, 0, 0⟩ else d'.cs v, asv := fun v => if v = n then ⟨none, 0, 0⟩ else d'.asv v } val' = zQa ((d'.withMode n 0).withAt n 0) val' := rfl
 rw [e1, zVu, zKQ, hU, fallS, if_pos hu, zQL]
 simp only [Dsk.setU, Dsk.mk.injEq, true_and, and_true]
 funext v
 by_cases e : v = n
 ·subst e; simp
 ·simp [e]
end Go.Proofs.YtcihcbfcgjepfaaGreatDoor
/- Desks: the reference's Store. No condition but those stated. -/
namespace Go.Proofs.YtcihcbfcgjepfaaGreatDoor
open Go.Sh Go.RowKit Tryz
variable {w w' : World} {d d' : zQr} {val : Nat -> List Val}
theorem yJG {α : Type} (f : α -> α) (z : α) : ∀ (l : List α) (k : Nat), (l.modify k f).set k z = l.set k z
 | [], k => by simp
 | y :: l, 0 => rfl
 | y :: l, k + 1 => by rw [List.set_cons_succ, List.modify_succ_cons, List.set_cons_succ, yJG]
theorem rSetRh (h : zQs w d val) {i : Nat} {x y : zQy} (hx : d.rh[i]? = some x) (hs : x.s = y.s) (hf : Fr (· ∈ zQb d.rs) w w') (hrow : zQj w' 77 2 d.rs ((d.rh.set i y).flatMap zJF)) : zQs w' { d with rh := d.rh.set i y } val := by
 have own : ∀ b ∈ zQb d.rs, d.o b = some .R := h.bd.oR
 have hu : 0 < 4 := by decide
 have hm : x ∈ zXf d := zQK (List.mem_of_getElem? hx)
 have ne : ∀ {b : Nat} {κ : zX4}, d.o b = some κ -> κ ≠ .R -> ¬ b ∈ zQb d.rs := fun {b κ} hb hk e => by rw [own b e] at hb; exact hk (Option.some.inj hb).symm
 have hbd : zQG w' (d.gen 0 d.o d.rs (d.rh.set i y) (d.asv 0) (d.ah 0) (d.cs 0) (d.ch 0) (d.C 0)) val := by
  refine h.bd.gen hu hf (fun b κ hb _ hk _ _ => ⟨ne hb hk, hb⟩) h.bd.oS hrow own ((h.bd.aw 0 hu).fr hf fun b hb => ne (h.bd.oA 0 hu b hb) (by simp)) (h.bd.oA 0 hu) (fun e => ⟨(h.bd.mp e 0 hu).fr hf (ne (h.bd.oC e 0 hu) (by simp)), h.bd.oC e 0 hu⟩) (fun e => ⟨(h.bd.ml e 0 hu).fr hf fun b hb => ne (h.bd.oK e 0 hu b hb) (by simp), h.bd.oK e 0 hu⟩) (fun z hz => ?_) ?_ (fun b hb => Nat.lt_of_lt_of_le (h.bd.lt b hb) hf.size)
  ·left
   simp only [List.mem_append] at hz
   rcases hz with (hz | hz) | hz
   ·exact ⟨z, zZn hu (List.mem_append_left _ hz), rfl⟩
   ·exact ⟨z, zX8 hu hz, rfl⟩
   ·rcases List.mem_or_eq_of_mem_set hz with hz | rfl
    ·exact ⟨z, zQK hz, rfl⟩
    ·exact ⟨x, hm, hs.symm⟩
  ·have hnd := (yZo hu).1 h.bd.nd
   have e : zXa d 0 = d.rh ++ (zXa d 0).drop d.rh.length := by simp [zXa]
   rw [e] at hnd
   unfold zKM
   rw [zQt, zQt (d.rh.set _ _), zWk (y := y) hx hs, ← zQt, ← zQt]
   exact hnd
 rw [zKZ] at hbd
 exact ⟨hf.blk h.st (ne h.bd.oS (by simp)), hbd, h.sd⟩
theorem yVZ (h : zQs w d val) {c : zQy × zQy} (m1 : c.1 ∈ zXf d) (m2 : c.2 ∈ zXf d) {i : Nat} {x : zQy} (hx : d.rh[i]? = some x) (n1 : ∀ b ∈ zQb x.s, b ∉ zQb c.1.s) (n2 : ∀ b ∈ zQb x.s, b ∉ zQb c.2.s)
  (l1 : (hv val c.1).length = (hv val c.2).length) (l2 : (hv val x).length = (hv val c.2).length) (lb : (hv val c.2).length <= 1000000) (lp : 0 < (hv val c.2).length) {a : Addr} (ha : d.rs.a = some a) {r : Nat} {k : Int}
  (hr : w.heap[r]? = some (.cells #[.int .i64 k, .bool c.1.g, .slice c.1.s.a c.1.s.len c.1.s.cap, .bool c.2.g, .slice c.2.s.a c.2.s.len c.2.s.cap] 136)) (nr : d.o r = none) {R : Rt} {J1 : Int -> World -> Prop} {p0 p10 : Option Addr} {n13 n1' : Int}
  (hJ : ∀ w' y val', y.s = x.s -> zQs w' { d with rh := d.rh.set i y } val' -> Fr (RV d) w w' -> zQa { d with rh := d.rh.set i y } val' = { zQa d val with recs := (zQa d val).recs.modify i (zZM (toR val c.1, toR val c.2)) } -> J1 (IntKind.i64.wrap (n13 + 1)) w') :
  xZo R J1 p0 n1' p10 n13 (some ⟨r, 0, none⟩) (some (a.add (i * 2))) 0 [] w := by
 have hm : x ∈ zXf d := zQK (List.mem_of_getElem? hx)
 have hi : i < d.rh.length := (List.getElem?_eq_some_iff.1 hx).1
 have eX : (zQa d val).recs[i]? = some (toR val x) := by show (d.rh.map (toR val))[i]? = _; rw [List.getElem?_map, hx]; rfl
 have k1 : zQj w 28 3 c.1.s ((hv val c.1).flatMap zXH) := h.bd.vr _ m1
 have k2 : zQj w 28 3 c.2.s ((hv val c.2).flatMap zXH) := h.bd.vr _ m2
 have ox : ∀ b ∈ zQb x.s, d.o b = some .V := fun b hb => h.bd.oV b (zXk hm hb)
 have oR := h.bd.oR
 have r0 := h.bd.vr x hm
 obtain ⟨ab, hab⟩ := zXy (i := 0) r0 (by omega)
 have s1 := k1.len zQI (by decide)
 have s2 := k2.len zQI (by decide)
 have s3 := r0.len zQI (by decide)
 have mixl : ∀ k, (zZQ ((hv val c.1).take k) ((hv val c.2).take k) (hv val x)).length = (hv val x).length := fun k => zKP _ _ _
 have nX : ¬ r ∈ zQb x.s := fun e => by rw [ox _ e] at nr; cases nr
 refine zQz (hv val x).length (fun k t w' => t = (k : Int) /\ zQj w' 28 3 x.s ((zZQ ((hv val c.1).take k) ((hv val c.2).take k) (hv val x)).flatMap zXH) /\ Fr (· ∈ zQb x.s) w w') ⟨rfl, by rw [List.take_zero, List.take_zero, mix0]; exact r0, Fr.refl _ _⟩ ?_
 rintro j J2 t w4 hj ⟨ht, hr4, hf4⟩ hJ2
 obtain rfl : t = (j : Int) := ht
 have hrow4 : ∀ {wz : World}, Fr (· ∈ zQb x.s) w wz -> zQj wz 77 2 d.rs (d.rh.flatMap zJF) := fun {wz} hf => h.bd.rw_.fr hf fun b hb e => by have h5 := oR b hb; rw [ox b e] at h5; cases h5
 have xcell : ∀ {wz : World}, Fr (· ∈ zQb x.s) w wz -> wz.cell? ((a.add (i * 2)).add 1) = some (.slice x.s.a x.s.len x.s.cap) := fun {wz} hf => by
  obtain ⟨aR, haR, _, hcl⟩ := (hrow4 hf).elem zQk hx (o := 1) (v := .slice x.s.a x.s.len x.s.cap) rfl
  rw [ha] at haR; cases haR
  exact hcl
 refine ⟨x.s, xcell hf4, Br.of (fun d1 => zQf fun w5 hp5 _ => ?_) (fun d1 => ?_)⟩
 ·have hj2 : j < (hv val x).length := by have := zQn d1; omega
  obtain ⟨p, hp⟩ := zXg (l := hv val c.1) (k := j) (by omega)
  obtain ⟨q, hq⟩ := zXg (l := hv val c.2) (k := j) (by omega)
  obtain ⟨z, hz⟩ := zXg hj2
  have hf5 : Fr (· ∈ zQb x.s) w w5 := hf4.trans (Fr.pu hp5 : Fr (· ∈ zQb x.s) w4 w5) fun i hi _ => hi
  have hb5 := hf5.blk hr nX
  have V1 : RdV w5 c.1.s (hv val c.1) := zZO.rd (w0 := { w with heap := #[] }) ⟨k1.fr hf5 fun b hb hb2 => n1 b hb2 hb, fun _ _ => Nat.zero_le _⟩ (by omega)
  have V2 : RdV w5 c.2.s (hv val c.2) := zZO.rd (w0 := { w with heap := #[] }) ⟨k2.fr hf5 fun b hb hb2 => n2 b hb2 hb, fun _ _ => Nat.zero_le _⟩ (by omega)
  obtain ⟨pa, hpa, a0, a1, a2⟩ := V1.get j p hp
  obtain ⟨pb, hpb, b0, b1, b2⟩ := V2.get j q hq
  refine ⟨c.1.s, by rw [zQe, zQe, zQo hb5]; rfl, pa, hpa, by omega, by omega, _, a0, _, a1, _, a2, c.2.s, by rw [zQe, zQe, zQo hb5]; rfl, pb, hpb, by omega, by omega, _, b0, _, b1, _, b2, (zXN p q w5).mono ?_⟩
  rintro e w6 ⟨rfl, hp6⟩
  refine ⟨_, rfl, Br.of (fun d2 => zQf fun w7 hp7 _ => ?_) (fun d2 => ?_)⟩
  ·have d2 : p ≠ q := by simpa using d2
   have hp57 := hp6.trans hp7
   have hf7 : Fr (· ∈ zQb x.s) w w7 := hf5.trans (Fr.pu hp57 : Fr (· ∈ zQb x.s) w5 w7) fun i hi _ => hi
   have hb7 := hp57.blk hb5
   have hr7 := hr4.pu (hp5.trans hp57)
   obtain ⟨pb', hpb', c0, c1, c2⟩ := (V2.pu hp57).get j q hq
   obtain ⟨b, hb, hst⟩ := hr7.stElem (P := prog) (t := 28) zQI (by decide) (i := j) (by rw [mixl]; omega) q zKR.symm rfl (K := fun w' => J2 (IntKind.i64.wrap ((j : Int) + 1)) w') fun w9 hr9 hf9 hs9 => by
    rw [zQc (by omega) (by omega)]
    refine hJ2 _ _ hj2 ⟨by omega, ?_, hf7.trans hf9 fun i hi _ => hi⟩
    rw [zJT hp hq hz, if_neg d2]
    exact hr9
   exact ⟨x.s, xcell hf7, c.2.s, by rw [zQe, zQe, zQo hb7]; rfl, pb', hpb', by omega, by omega, _, c0, _, c1, _, c2, b, hb, by omega, by omega, hst⟩
  ·have d2 : p = q := by simpa using d2
   rw [zQc (by omega) (by omega)]
   refine hJ2 _ _ hj2 ⟨by omega, ?_, hf5.trans (Fr.pu hp6 : Fr (· ∈ zQb x.s) w5 w6) fun i hi _ => hi⟩
   rw [zJT hp hq hz, if_pos d2, zJU (by rw [yQ6]; exact hz)]
   exact (hr4.pu hp5).pu hp6
 ·have hj2 : j = (hv val x).length := by have := zQg d1; omega
  subst hj2
  rw [List.take_of_length_le (by omega), List.take_of_length_le (by omega)] at hr4
  have hD := h.setVal hm hab hf4 hr4
  have hF4 : Fr (RV d) w w4 := hf4.mono fun i hi _ => .inr (ox i hi)
  have hb4 := hf4.blk hr nX
  have ea := zZL (val := val) (x := zZQ (hv val c.1) (hv val c.2) (hv val x)) h.bd.nd h.bd.low hx hab
  have vx : hv (zX6 val ab.block (zZQ (hv val c.1) (hv val c.2) (hv val x))) x = zZQ (hv val c.1) (hv val c.2) (hv val x) := zZj hab rfl
  -- the end, with the record as it is then
  have fin : ∀ {w5 : World} (y : zQy), y.s = x.s -> y.g = (if c.1.g = c.2.g then x.g else c.2.g) -> zQs w5 { d with rh := d.rh.set i y } (zX6 val ab.block (zZQ (hv val c.1) (hv val c.2) (hv val x))) -> Fr (RV d) w w5 -> J1 (IntKind.i64.wrap (n13 + 1)) w5 := fun {w5} y hys hyg h5 hf5 => by
   refine hJ w5 y _ hys h5 hf5 ?_
   have e1 : zQa { d with rh := d.rh.set i y } (zX6 val ab.block (zZQ (hv val c.1) (hv val c.2) (hv val x))) = { zQa d (zX6 val ab.block (zZQ (hv val c.1) (hv val c.2) (hv val x))) with recs := (zQa d (zX6 val ab.block (zZQ (hv val c.1) (hv val c.2) (hv val x)))).recs.set i (toR (zX6 val ab.block (zZQ (hv val c.1) (hv val c.2) (hv val x))) y) } := by
    simp only [zQa, List.map_set]
    rfl
   have e2 : toR (zX6 val ab.block (zZQ (hv val c.1) (hv val c.2) (hv val x))) y = zZM (toR val c.1, toR val c.2) (toR val x) := by
    have : hv (zX6 val ab.block (zZQ (hv val c.1) (hv val c.2) (hv val x))) y = zZQ (hv val c.1) (hv val c.2) (hv val x) := Eq.trans (by unfold hv; rw [hys]) vx
    rw [toR, this, hyg]; rfl
   rw [e1, ea, e2]
   show ({ zQa d val with recs := _ } : Dsk) = _
   rw [yJG, zXO eX]
  refine ⟨_, cl hb4 1, _, cl hb4 3, Br.of (fun d3 => ?_) (fun d3 => ?_)⟩
  ·have d3 : c.1.g ≠ c.2.g := by simpa using d3
   obtain ⟨a1, ha1, hst⟩ := hD.bd.rw_.stField (i := i) (o := 0) zQk hi (by decide) { x with g := c.2.g } (.bool c.2.g) (fun y hy => by rw [hx] at hy; cases hy; rfl) (K := fun w5 => J1 (IntKind.i64.wrap (n13 + 1)) w5) fun w5 hr5 hf5 hs5 =>
    fin { x with g := c.2.g } rfl (by rw [if_neg d3]) (rSetRh hD hx rfl hf5 hr5) (hF4.trans hf5 fun i hi _ => .inl (oR i hi))
   rw [ha] at ha1; cases ha1
   rw [yQM] at hst
   exact ⟨_, cl hb4 3, hst⟩
  ·have d3 : c.1.g = c.2.g := by simpa using d3
   have e : d.rh.set i x = d.rh := zJU hx
   exact fin x rfl (by rw [if_pos d3]) (by rw [e]; exact hD) hF4
theorem zVm (h : zQs w d val) {u : Nat} (hu : u < 4) {w5 : World} {rs' t : SV} {out : List Int} (at' : Int) (hst : w5.heap[d.S]? = some (.cells (zZz (({ d with rs := rs' } : zQr).withAt u at')) 125)) (hrow : zQj w5 77 2 rs' ((d.rh ++ d.ah u).flatMap zJF))
  (hb : ∀ b ∈ zQb rs', b ∈ zQb d.rs ∨ w.heap.size <= b) (hf : Fr (fun b => b = d.S ∨ b ∈ zQb d.rs) w w5) (hN : zXD w w5 t out) (hlr : ∀ k v, d.lk k = some v -> 1 <= k /\ k <= d.rh.length /\ 0 <= v /\ v < 4) (hr3 : d.rh.length + (d.ah u).length <= 1000) :
  Calls prog 127 #[d.ptr, .int .i64 (u : Int)] w5 fun e w6 => e = .returned (.tuple #[]) /\ zXD w w6 t out /\ ∃ d', zQ1 w w6 d d' val /\
   zQa d' val = zX2 u ({ zQa d val with recs := (zQa d val).recs ++ ((zQa d val).us u).ap }.setU u { (zQa d val).us u with at_ := at' }) := by
 obtain ⟨l, hl, hk⟩ := h.lm
 have hLS : d.L ≠ d.S := fun e => by have := h.bd.oL; rw [e, h.bd.oS] at this; cases this
 have oR := h.bd.oR
 have nL : ¬ (d.L = d.S ∨ d.L ∈ zQb d.rs) := fun e => by
  rcases e with e | e
  ·exact hLS e
  ·have := oR _ e; rw [h.bd.oL] at this; cases this
 have hrlen := hrow.len zQk (by decide)
 rw [List.length_append] at hrlen
 refine (zVb (d := ({ d with rs := rs' } : zQr).withAt u at') hst (hl.fr hf nL) hLS hu (by show rs'.len <= 1000; omega) (fun k v hv => ?_)).mono ?_
 ·have := zYl h hlr hk k v hv
  exact ⟨this.1, by show k <= ((rs'.len : Nat) : Int); omega, this.2.2⟩
 rintro e w6 ⟨rfl, hst6, hf6, l', hl', hk'⟩
 have z5 := hf.size
 have z6 := hf6.size
 have hF : Fr (fun b => b = d.S ∨ b ∈ zQb d.rs ∨ b = d.L) w w6 := (hf.mono (B' := fun b => b = d.S ∨ b ∈ zQb d.rs ∨ b = d.L) fun i hi _ => hi.elim .inl fun h => .inr (.inl h)).trans hf6 fun i hi _ => by
  rcases hi with hi | hi
  ·exact .inl hi
  ·exact .inr (.inr hi)
 have zr := hrow.lt
 have nt : ∀ b ∈ zQb t, ¬ (b = d.S ∨ b = d.L) := fun b hb e => by
  have h1 := h.bd.out (hN.2 b hb)
  rcases e with e | e
  ·rw [e, h.bd.oS] at h1; cases h1
  ·rw [e, h.bd.oL] at h1; cases h1
 have ne : ∀ {b : Nat} {κ : zX4}, d.o b = some κ -> κ ≠ .S -> κ ≠ .L -> κ ≠ .R -> ¬ (b = d.S ∨ b ∈ zQb d.rs ∨ b = d.L) := fun {b κ} hb h1 h2 h3 e => by
  rcases e with e | e | e
  ·rw [e, h.bd.oS] at hb; exact h1 (Option.some.inj hb).symm
  ·rw [oR b e] at hb; exact h3 (Option.some.inj hb).symm
  ·rw [e, h.bd.oL] at hb; exact h2 (Option.some.inj hb).symm
 have up : ∀ {b : Nat} {κ : zX4}, d.o b = some κ -> κ ≠ .R -> (if b ∈ zQb rs' then some zX4.R else d.o b) = some κ := fun {b κ} hbo hk => by
  have hlw : b < w.heap.size := h.bd.lt b (by rw [hbo]; simp)
  rw [if_neg fun e => ?_]
  ·exact hbo
  ·rcases hb b e with e | e
   ·rw [oR b e] at hbo; exact hk (Option.some.inj hbo).symm
   ·omega
 have nrs : ∀ b ∈ zQb rs', ¬ (b = d.S ∨ b = d.L) := fun b hb2 e => by
  rcases hb b hb2 with h1 | h1
  ·have h2 := oR b h1
   rcases e with e | e
   ·rw [e, h.bd.oS] at h2; cases h2
   ·rw [e, h.bd.oL] at h2; cases h2
  ·have h2 := h.bd.out h1
   rcases e with e | e
   ·rw [e, h.bd.oS] at h2; cases h2
   ·rw [e, h.bd.oL] at h2; cases h2
 have hbd := h.bd.genL hu (lk' := fun k => if d.lk k = some (u : Int) then none else d.lk k) (o' := fun b => if b ∈ zQb rs' then some .R else d.o b) (rs' := rs') (rh' := d.rh ++ d.ah u) (as' := ⟨none, 0, 0⟩) (ah' := []) (cs' := ⟨none, 0, 0⟩) (ch' := []) (C' := d.C u) hF
  ⟨l', hl', zVZ hlr h.sd hk hk'⟩ (up h.bd.oL (by simp)) (fun b κ hbo k0 k1 k2 k3 k4 => ⟨ne hbo k1 k0 k2, up hbo k2⟩) (up h.bd.oS (by simp)) (hrow.fr hf6 nrs) (fun b hb2 => if_pos hb2) (zQj.nil _ _ _) (by simp [zQb]) (fun e => absurd (e.symm.trans h.sd) (by simp)) (fun _ => ⟨zQj.nil _ _ _, by simp [zQb]⟩) (fun x hx => by
   simp only [List.append_nil, chH, List.flatMap_nil, List.nil_append, List.mem_append] at hx
   rcases hx with hx | hx
   ·exact .inl ⟨x, zQK hx, rfl⟩
   ·exact .inl ⟨x, zX8 hu hx, rfl⟩) (by
   have hnd := (yZo hu).1 h.bd.nd
   have e : zXa d u = d.rh ++ (zXa d u).drop d.rh.length := by simp [zXa]
   rw [e] at hnd
   simp only [zKM, chH, List.flatMap_nil, List.nil_append]
   have p : (d.rh ++ d.ah u ++ (zXa d u).drop d.rh.length).Perm (d.ah u ++ (d.rh ++ (zXa d u).drop d.rh.length)) := by
    rw [List.append_assoc]; exact List.perm_append_comm_assoc ..
   refine (zXA p).nodup_iff.2 ?_
   rw [uH, List.append_assoc, zQt] at hnd
   exact (List.nodup_append.1 hnd).2.1) (fun b hbo => by
   by_cases e2 : b ∈ zQb rs'
   ·have := zr b e2; omega
   ·rw [if_neg e2] at hbo
    exact Nat.lt_of_lt_of_le (h.bd.lt b hbo) hF.size)
 refine ⟨rfl, hN.fr hf6 nt, _, ⟨⟨hst6, hbd.same d.mode (fun v => if v = u then at' else d.at_ v), h.sd⟩, hF.mono fun i hi _ => ?_, fun b hbo => ?_, rfl⟩, ?_⟩
 ·rcases hi with rfl | hi | rfl
  ·rw [h.bd.oS]; simp
  ·rw [oR i hi]; simp
  ·rw [h.bd.oL]; simp
 ·have hbo : (if b ∈ zQb rs' then some zX4.R else d.o b) ≠ none := hbo
  by_cases e2 : b ∈ zQb rs'
  ·rcases hb b e2 with h1 | h1
   ·left; rw [oR b h1]; simp
   ·right; exact h1
  ·rw [if_neg e2] at hbo; exact .inl hbo
 ·simp only [zQa, zX2, Dsk.setU, List.map_append, Dsk.mk.injEq]
  refine ⟨rfl, rfl, by simp [zQr.gen, zJ2], ?_, rfl⟩
  funext v
  by_cases e : v = u
  ·subst e; simp [zJ2, zQr.gen]
  ·simp [zJ2, zQr.gen, e]
theorem zYY (h : zQs w d val) {u : Nat} (hu : u < 4) (hb : d.rh.length + (d.ah u).length <= 1000) (hat : -(d.at_ u) <= (d.ah u).length) (hlr : ∀ k v, d.lk k = some v -> 1 <= k /\ k <= d.rh.length /\ 0 <= v /\ v < 4) {R : Rt}
  (hR : ∀ w' q d', zXD w w' q (storeL u (zQa d val)) -> zQ1 w w' d d' val -> zQa d' val = xQK u (zQa d val) -> R (.returned (.tuple #[.slice q.a q.len q.cap, .int .i64 0])) w') :
  xZi R (some ⟨d.S, 0, none⟩) (u : Int) (some (((⟨d.S, 0, none⟩ : Addr).add 3).add ((u : Int).toNat * 4))) [] w := by
 have hal := h.as_len hu
 have hrl := h.rs_len
 have oR := h.bd.oR
 have eA : ((zQa d val).us u).at_ = d.at_ u := rfl
 have eR : (zQa d val).recs.length = d.rh.length := by simp [zQa]
 have eP : ((zQa d val).us u).ap.length = (d.ah u).length := zX0
 have eL : storeL u (zQa d val) = (List.range (d.ah u).length).map fun (j : Nat) => ((d.rh.length : Int) + j) + 1 := by unfold storeL; rw [eP, eR]
 rw [zJp]
 refine zQz (d.ah u).length (fun k t w' => t.2 = (k : Int) /\ ∃ rk : SV, zQj w' 77 2 rk ((d.rh ++ (d.ah u).take k).flatMap zJF) /\ (∀ b ∈ zQb rk, b ∈ zQb d.rs ∨ w.heap.size <= b) /\ w'.heap[d.S]? = some (.cells (zZz { d with rs := rk }) 125) /\
  zXD w w' t.1 ((List.range k).map fun (j : Nat) => ((d.rh.length : Int) + j) + 1) /\ Fr (fun b => b = d.S ∨ b ∈ zQb d.rs) w w') ⟨rfl, d.rs, by simpa using h.bd.rw_, fun b hb => .inl hb, h.st, zXD.nil _ _, Fr.refl _ _⟩ ?_
 rintro k J ⟨t, n⟩ w1 hk ⟨hn, rk, hrow, hrb, hst, hN, hf⟩ hJ
 obtain rfl : n = (k : Int) := hn
 dsimp only at hN
 have nA : ∀ b ∈ zQb (d.asv u), ¬ (b = d.S ∨ b ∈ zQb d.rs) := fun b hb e => by
  have h1 := h.bd.oA u hu b hb
  rcases e with e | e
  ·rw [e, h.bd.oS] at h1; cases h1
  ·rw [oR b e] at h1; cases h1
 have hasv := (h.bd.aw u hu).fr hf nA
 have hkl := List.length_take_le k (d.ah u)
 have hrlen := hrow.len zQk (by decide)
 rw [List.length_append] at hrlen
 have ucell : ∀ (o : Nat), w1.cell? ((uR d u).add o) = (zZz { d with rs := rk })[3 + u * 4 + o]? := fun o => by rw [zQe, zQo hst]
 have cA : w1.cell? ((uR d u).add 3) = some (.slice (d.asv u).a (d.asv u).len (d.asv u).cap) := by rw [ucell]; exact yW3 (d := { d with rs := rk }) hu
 refine ⟨d.asv u, cA, Br.of (fun d1 => zQf fun w2 hp2 _ => ?_) (fun d1 => ?_)⟩
 ·have hk2 : k < (d.ah u).length := by have := zQn d1; omega
  have hkt : ((d.ah u).take k).length = k := by rw [List.length_take]; omega
  obtain ⟨x, hx⟩ := zXg hk2
  have hasv2 := hasv.pu hp2
  obtain ⟨a, ea, _, g0⟩ := hasv2.elem zQk hx (o := 0) (v := .bool x.g) rfl
  obtain ⟨a', ea', _, g1⟩ := hasv2.elem zQk hx (o := 1) (v := .slice x.s.a x.s.len x.s.cap) rfl
  rw [ea] at ea'; cases ea'
  have hst2 := hp2.blk hst
  refine ⟨fun y => Pu w2 y, Pu.refl _, rk, fun y hy => by rw [zQe, zQo (hy.blk hst2)]; rfl, d.asv u, fun y hy => (hp2.trans hy).cell cA, a, ea, by omega, by omega, x.g, fun y hy => hy.cell g0, x.s, fun y hy => hy.cell g1, alB fun w5 hp5 hb5 => ⟨hp5, ?_⟩⟩
  have hp15 := hp2.trans hp5
  have hrow5 := hrow.pu hp15
  obtain ⟨r', w6, hra, hrow6, hf6, hblk6, _⟩ := zQ2 (P := prog) (ty := 23) yYn zJh rfl (by omega) hrow5 (A := some ⟨w2.heap.size, 0, none⟩) (m := 1) (c := 1) (news := [.bool x.g, .slice x.s.a x.s.len x.s.cap]) rfl (fun j y hy => ⟨_, rfl, by rw [cl hb5]; simpa using hy⟩) (fun y hy => by simp at hy; rcases hy with rfl | rfl <;> rfl) (by show (rk.len + 1) * (32 + 1) <= _; omega)
  refine ⟨r', w6, hra, ?_⟩
  have z1 := hf.size
  have z5 := hp15.size
  have nS : ∀ b ∈ zQb rk, ¬ b = d.S := fun b hb e => by
   rcases hrb b hb with h1 | h1
   ·have := oR b h1; rw [e, h.bd.oS] at this; cases this
   ·have := h.bd.out h1; rw [e, h.bd.oS] at this; cases this
  have hst6 := hf6.blk (hp15.blk hst) (fun e => nS _ e rfl)
  rw [zQ9, zQe]
  refine zQv hst6 (by show 0 + 2 < 20; omega) fun w7 hw7 hb7 => ?_
  have hf7 : Fr (· = d.S) w6 w7 := by rw [hw7]; exact Fr.cell w6 _ _ _
  have hb7 : w7.heap[d.S]? = some (.cells (zZz { d with rs := r' }) 125) := hb7
  have nS' : ∀ b ∈ zQb r', ¬ b = d.S := fun b hb e => by
   rcases hblk6 b hb with h1 | h1
   ·exact nS b h1 e
   ·have h2 := h.bd.lt d.S (by rw [h.bd.oS]; simp)
    omega
  have hrow7 := hrow6.fr hf7 nS'
  refine ⟨r', by rw [zQe, zQo hb7]; rfl, alB fun w8 hp8 hb8 => ?_⟩
  have er : r'.len = rk.len + 1 := by
   have h1 := hrow7.1
   simp only [List.length_append, zQu zQk, List.length_cons, List.length_nil] at h1
   omega
  have eint : ((r'.len : Nat) : Int) = ((d.rh.length : Int) + k) + 1 := by rw [er, hrlen, hkt]; omega
  rw [eint] at hb8
  have hNt : zXD w w5 t _ := hN.pu hp15
  have ap1 : ∀ b ∈ zQb t, b ∉ zQb rk := zZA hNt.1 hrow5 (by decide)
  have hN7 := ((hNt.fr hf6 ap1).fr hf7 fun b hb e => by have h1 := h.bd.out (hN.2 b hb); rw [e, h.bd.oS] at h1; cases h1).pu hp8
  have z6 := hf6.size
  have z7 := hf7.size
  have z8 := hp8.size
  obtain ⟨t', w9, hra9, hN9, hf9⟩ := hN7.push (by omega) hb8 (by simp; omega)
  refine ⟨t', w9, hra9, ?_⟩
  rw [zQc (by omega) (by omega)]
  have hrow8 := hrow7.pu hp8
  have ap2 : ∀ b ∈ zQb r', b ∉ zQb t := zZA hrow8 hN7.1 (by decide)
  refine hJ _ _ hk2 ⟨by simp, r', ?_, fun b hb => ?_, hf9.blk (hp8.blk hb7) (fun e => by have h1 := h.bd.out (hN.2 _ e); rw [h.bd.oS] at h1; cases h1), ?_, ?_⟩
  ·rw [zQO hx, ← List.append_assoc, List.flatMap_append, List.flatMap_singleton]
   exact hrow8.fr hf9 ap2
  ·rcases hblk6 b hb with h1 | h1
   ·exact hrb b h1
   ·right; omega
  ·rw [List.range_succ, List.map_append]; exact hN9
  ·have q1 : Fr (fun b => b = d.S ∨ b ∈ zQb d.rs) w w6 := (hf.trans (Fr.pu hp15 : Fr (fun b => b = d.S ∨ b ∈ zQb d.rs) w1 w5) fun i hi _ => hi).trans hf6 fun i hi hlt => by
    rcases hrb i hi with h1 | h1
    ·exact .inr h1
    ·omega
   exact ((q1.trans hf7 fun i hi _ => .inl hi).trans (Fr.pu hp8 : Fr (fun b => b = d.S ∨ b ∈ zQb d.rs) w7 w8) fun i hi _ => hi).trans hf9 fun i hi hlt => by have := hN.2 i hi; omega
 ·have hk2 : k = (d.ah u).length := by have := zQg d1; omega
  subst hk2
  rw [List.take_length] at hrow
  have eU : w1.cell? ((uR d u).add 1) = some (.int .i64 (d.at_ u)) := by rw [ucell]; exact yQP (d := { d with rs := rk }) hu
  refine ⟨_, eU, Br.of (fun c => ?_) (fun c => ?_)⟩
  ·have c := zQn c
   have ew : IntKind.i64.wrap ((IntKind.i64.wrap (0 - d.at_ u)) - 1) = -d.at_ u - 1 := by rw [zQc (n := 0 - d.at_ u) (by omega) (by omega), zQc (by omega) (by omega)]; omega
   have hlt : (-d.at_ u - 1).toNat < (d.ah u).length := by omega
   have hNl := hN.len
   simp only [List.length_map, List.length_range] at hNl
   obtain ⟨a, ha, hc, _⟩ := hN.1.cell (j := (-d.at_ u - 1).toNat) (v := .int .i64 ((d.rh.length : Int) - d.at_ u)) (by
    rw [List.getElem?_map, List.getElem?_map, List.getElem?_range hlt]
    simp only [Option.map_some, Option.some.injEq]
    congr 1; omega)
   refine ⟨_, eU, a, ha, ?_⟩
   rw [ew]
   refine ⟨by omega, by show -d.at_ u - 1 < ((t.len : Nat) : Int); omega, (d.rh.length : Int) - d.at_ u, by rw [Nat.mul_one]; exact hc, ?_⟩
   rw [zQ9, zQe]
   refine zQv hst (by show 3 + u * 4 + 1 < 20; omega) fun w2 hw2 hb2 => ?_
   have hf2 : Fr (· = d.S) w1 w2 := by rw [hw2]; exact Fr.cell w1 _ _ _
   rw [zKz hu] at hb2
   have nS : ∀ b ∈ zQb rk, ¬ b = d.S := fun b hb e => by
    rcases hrb b hb with h1 | h1
    ·have := oR b h1; rw [e, h.bd.oS] at this; cases this
    ·have := h.bd.out h1; rw [e, h.bd.oS] at this; cases this
   refine (zVm h hu _ hb2 (hrow.fr hf2 nS) hrb (hf.trans hf2 fun i hi _ => .inl hi) (hN.fr hf2 fun b hb e => by have h1 := h.bd.out (hN.2 b hb); rw [e, h.bd.oS] at h1; cases h1) hlr hb).mono ?_
   rintro e w3 ⟨rfl, hN3, d', hL, habs⟩
   refine ⟨rfl, hR w3 t d' (by rw [eL]; exact hN3) hL ?_⟩
   rw [habs]
   simp only [xQK, eA, eR]
   rw [if_pos c]
  ·have c := zQg c
   have e1 : zZz { d with rs := rk } = zZz (({ d with rs := rk } : zQr).withAt u (d.at_ u)) := by
    have e : (fun v => if v = u then d.at_ u else d.at_ v) = d.at_ := by funext v; by_cases e : v = u <;> simp [e]
    simp only [zQr.withAt, e]
   rw [e1] at hst
   refine (zVm h hu _ hst hrow hrb hf hN hlr hb).mono ?_
   rintro e w3 ⟨rfl, hN3, d', hL, habs⟩
   refine ⟨rfl, hR w3 t d' (by rw [eL]; exact hN3) hL ?_⟩
   rw [habs]
   simp only [xQK, eA, eR]
   rw [if_neg c]
end Go.Proofs.YtcihcbfcgjepfaaGreatDoor
/- Desks: the reference's Store as a whole, and Go. No condition but those stated. -/
namespace Go.Proofs.YtcihcbfcgjepfaaGreatDoor
open Go.Sh Go.RowKit Tryz
variable {w w' : World} {d d' : zQr} {val : Nat -> List Val}
theorem bs136 : zXr prog 136 = 5 := by kernel_rfl
theorem Inv.lrL (hI : Inv (zQa d val)) : ∀ k v, d.lk k = some v -> 1 <= k /\ k <= d.rh.length /\ 0 <= v /\ v < 4 := fun k v hv => by
 have := hI.lr k v hv
 rw [show (zQa d val).recs.length = d.rh.length by simp [zQa]] at this
 exact this
theorem zQs.chg (h : zQs w d val) {u : Nat} (hu : u < 4) {k : Nat} {p : Chg} (hp : (d.ch u)[k]? = some p) : ∃ a, (d.cs u).a = some a /\ k < (d.cs u).len /\ w.cell? ((a.add (k * 5)).add 0) = some (.int .i64 p.1) /\ w.cell? ((a.add (k * 5)).add 1) = some (.bool p.2.1.g) /\
  w.cell? ((a.add (k * 5)).add 2) = some (.slice p.2.1.s.a p.2.1.s.len p.2.1.s.cap) /\ w.cell? ((a.add (k * 5)).add 3) = some (.bool p.2.2.g) /\ w.cell? ((a.add (k * 5)).add 4) = some (.slice p.2.2.s.a p.2.2.s.len p.2.2.s.cap) := by
 have ent : ∀ o v, (chC p)[o]? = some v -> ∃ a, (d.cs u).a = some a /\ k < (d.cs u).len /\ w.cell? ((a.add (k * 5)).add o) = some v := fun o v hv => by
  obtain ⟨a, ea, hk, g0⟩ := (h.cs_row hu).elem zZu hp (o := o) (v := v) hv
  exact ⟨a, ea, hk, g0⟩
 obtain ⟨a, ea, hk, g0⟩ := ent 0 _ rfl
 obtain ⟨a1, ea1, _, g1⟩ := ent 1 _ rfl
 obtain ⟨a2, ea2, _, g2⟩ := ent 2 _ rfl
 obtain ⟨a3, ea3, _, g3⟩ := ent 3 _ rfl
 obtain ⟨a4, ea4, _, g4⟩ := ent 4 _ rfl
 rw [ea] at ea1 ea2 ea3 ea4; cases ea1; cases ea2; cases ea3; cases ea4
 exact ⟨a, ea, hk, g0, g1, g2, g3, g4⟩
theorem zY9 (h : zQs w d val) (hI : Inv (zQa d val)) {u : Nat} (hu : u < 4) {R : Rt}
  (hR : ∀ w' q d' val', zXD w w' q (storeL u (zQa d val)) -> zQ1 w w' d d' val' -> zQa d' val' = storedS u (zQa d val) -> R (.returned (.tuple #[.slice q.a q.len q.cap, .int .i64 0])) w') :
  yKC R (some ⟨d.S, 0, none⟩) (u : Int) (some (((⟨d.S, 0, none⟩ : Addr).add 3).add ((u : Int).toNat * 4))) [] w := by
 have hl3 := hI.chl hu
 have ha3 := hI.ah hu
 have hr3 := hI.rh
 have hat := hI.at_ u hu
 have eA : ((zQa d val).us u).at_ = d.at_ u := rfl
 rw [eA, zX0] at hat
 have hf16 : d.flds.length <= 16 := hI.f16
 have hl1 : 0 < d.flds.length := List.length_pos_iff.2 (zQE hI.vf).1
 have hrl := h.rs_len
 have hcl := h.cs_len hu
 have eCh : ((zQa d val).us u).ch = (d.ch u).map (toC val) := rfl
 have hnd : ((d.ch u).map Prod.fst).Nodup := by
  have h1 := hI.cn u hu
  rw [eCh, List.map_map] at h1
  exact h1
 refine zQz (d.ch u).length (fun k t w' => t = (k : Int) /\ ∃ (rhk : List zQy) (valk : Nat -> List Val), zQs w' { d with rh := rhk } valk /\ Fr (RV d) w w' /\
  zQa { d with rh := rhk } valk = { zQa d val with recs := zZ4 ((zQa d val).us u).ch ((d.ch u).drop k) (zQa d val).recs })
  ⟨rfl, d.rh, val, h, Fr.refl _ _, by rw [List.drop_zero, eCh, zWW]⟩ ?_
 rintro k J t w1 hk ⟨ht, rhk, valk, hD, hf, habs⟩ hJ
 obtain rfl : t = (k : Int) := ht
 have erl : rhk.length = d.rh.length := by
  have := congrArg (fun σ : Dsk => σ.recs.length) habs
  simp only [zWR] at this
  simpa [zQa] using this
 have eus : ∀ p ∈ d.ch u, toC valk p = toC val p := by
  have h1 := congrArg (fun σ : Dsk => (σ.us u).ch) habs
  exact List.map_inj_left.1 h1
 refine ⟨d.cs u, hD.uCs hu, Br.of (fun d1 => ?_) (fun d1 => ?_)⟩
 ·have hk2 : k < (d.ch u).length := by have := zQn d1; omega
  obtain ⟨p, hp⟩ := zXg hk2
  have hpm : p ∈ d.ch u := List.mem_of_getElem? hp
  have ed : (d.ch u).drop k = p :: (d.ch u).drop (k + 1) := zZS hp
  have hg : AL.get ((d.ch u).drop k) p.1 = some p.2 := by rw [ed]; simp [AL.get]
  have hgc : AL.get (d.ch u) p.1 = some p.2 := AL.get_of_mem hnd hpm
  have hxr := (hI.gc u hu (toC val p) (List.mem_map.2 ⟨p, hpm, rfl⟩))
  have hkr : 1 <= p.1 /\ p.1 <= d.rh.length := by simpa [toC, zQa] using hxr.2
  obtain ⟨a, ea, hka, g0, g1, g2, g3, g4⟩ := hD.chg hu hp
  have ea : (d.cs u).a = some a := ea
  have hka : k < (d.cs u).len := hka
  refine ⟨d.cs u, hD.uCs hu, a, ea, by omega, by omega, _, by rw [zQL]; exact g0, _, by rw [zQL]; exact g1, p.2.1.s, by rw [zQL]; exact g2, _, by rw [zQL]; exact g3, p.2.2.s, by rw [zQL]; exact g4, alB fun w2 hp2 hb2 => zQl hb2 bs136.symm rfl rfl fun w3 hb3 hf3 _ => zQf fun w4 hp4 _ => ?_⟩
  have hp13 : Pu w1 w3 := hp2.andNew hf3 fun i hi => by rw [show i = w1.heap.size from hi]; exact Nat.le_refl _
  have hp14 := hp13.trans hp4
  have hb4 := hp4.blk hb3
  have hD4 := hD.pu hp14
  have hlt : (p.1 - 1).toNat < rhk.length := by omega
  obtain ⟨x, hx⟩ := zXg hlt
  obtain ⟨aR, eaR, _, _⟩ := hD4.bd.rw_.elem zQk hx (o := 0) (v := .bool x.g) rfl
  have eaR : d.rs.a = some aR := eaR
  refine ⟨d.rs, hD4.recs, _, cl0 hb4, aR, eaR, ?_⟩
  rw [zQc (n := p.1 - 1) (by omega) (by omega)]
  refine ⟨by omega, by omega, ?_⟩
  have mc := zJc (d := { d with rh := rhk }) hu (c := p) hpm
  have hap := (zKW hD4.bd.nd hD4.bd.low).2 u
  have hxv : ∀ b ∈ zQb x.s, b ∈ vB rhk := fun b hb => zXk (List.mem_of_getElem? hx) hb
  have hcv : ∀ z, z = p.2.1 ∨ z = p.2.2 -> ∀ b ∈ zQb z.s, b ∈ vB (uH d u) := fun z hz b hb => zXk (List.mem_append_left _ (List.mem_flatMap.2 ⟨p, hpm, by rcases hz with rfl | rfl <;> simp⟩)) hb
  have ep := eus p hpm
  have e1 : hv valk p.2.1 = hv val p.2.1 := congrArg (fun z : Int × (Rec × Rec) => z.2.1.v) ep
  have e2 : hv valk p.2.2 = hv val p.2.2 := congrArg (fun z : Int × (Rec × Rec) => z.2.2.v) ep
  have k1 : (hv val p.2.1).length = d.flds.length := zQ7 hxr.1.1
  have k2 : (hv val p.2.2).length = d.flds.length := zQ7 hxr.1.2
  have exr : (hv valk x).length = d.flds.length := by
   have h1 := congrArg (fun σ : Dsk => σ.recs[(p.1 - 1).toNat]?) habs
   simp only [zWV (i := (p.1 - 1).toNat) (k := p.1) (by omega) hg] at h1
   have h2 : (rhk.map (toR valk))[(p.1 - 1).toNat]? = (zQa d val).recs[(p.1 - 1).toNat]? := h1
   rw [List.getElem?_map, hx] at h2
   exact zQ7 (hI.gr (toR valk x) (List.mem_of_getElem? h2.symm))
  have nr : ({ d with rh := rhk } : zQr).o w1.heap.size = none := hD.bd.out (Nat.le_refl _)
  refine yVZ hD4 (c := p.2) mc.1 mc.2 hx (fun b hb hb2 => hap b (hxv b hb) (hcv _ (.inl rfl) b hb2)) (fun b hb hb2 => hap b (hxv b hb) (hcv _ (.inr rfl) b hb2)) (by rw [e1, e2, k1, k2]) (by rw [e2, k2, exr]) (by rw [e2, k2]; omega) (by rw [e2, k2]; exact hl1) eaR hb4 nr fun w6 y val' hys hD6 hf6 habs6 => ?_
  have hf6 : Fr (RV d) w4 w6 := hf6
  rw [zQc (by omega) (by omega)]
  refine hJ _ _ hk2 ⟨by omega, rhk.set (p.1 - 1).toNat y, val', hD6, (hf.trans (Fr.pu hp14 : Fr (RV d) w1 w4) fun i hi _ => hi).trans hf6 fun i hi _ => hi, ?_⟩
  have e3 : (toR valk p.2.1, toR valk p.2.2) = (toR val p.2.1, toR val p.2.2) := congrArg Prod.snd ep
  have h7 : zQa { d with rh := rhk.set (p.1 - 1).toNat y } val' = { zQa { d with rh := rhk } valk with recs := (zQa { d with rh := rhk } valk).recs.modify (p.1 - 1).toNat (zZM (toR valk p.2.1, toR valk p.2.2)) } := habs6
  rw [h7, habs, e3]
  have hndk : (((d.ch u).drop k).map Prod.fst).Nodup := by rw [List.map_drop]; exact hnd.drop
  have h8 := zWg (l := (zQa d val).recs) (ch := ((zQa d val).us u).ch) (i := (p.1 - 1).toNat) (k := p.1) (by omega) hndk hg (C := (toR val p.2.1, toR val p.2.2)) (by rw [eCh, zZk, hgc]; rfl)
  have h9 : AL.del ((d.ch u).drop k) p.1 = (d.ch u).drop (k + 1) := by rw [ed]; simp [AL.del]
  rw [h9] at h8
  simp only [h8]
 ·have hk2 : k = (d.ch u).length := by have := zQg d1; omega
  subst hk2
  rw [List.drop_length, zV6] at habs
  refine zYY hD hu (by show rhk.length + (d.ah u).length <= 1000; omega) (by show -(d.at_ u) <= ((d.ah u).length : Int); omega) (by show ∀ k v, d.lk k = some v -> 1 <= k /\ k <= (rhk.length : Int) /\ 0 <= v /\ v < 4; rw [erl]; exact hI.lrL) fun w' q d' hN hL ha => ?_
  have hL1 : zQ1 w w1 d { d with rh := rhk } valk := ⟨hD, hf.mono fun i hi hlt => by
   rcases hi with hi | hi
   ·rw [hi]; simp
   ·rw [hi]; simp, fun b hb => .inl hb, rfl⟩
  refine hR w' q d' valk ?_ (hL1.trans hL) ?_
  ·have e : storeL u (zQa { d with rh := rhk } valk) = storeL u (zQa d val) := by
    rw [habs]; unfold storeL; simp only [zXj]
   rw [e] at hN
   exact hN.low hf.size
  ·rw [ha, habs, zWf]
def xX6 (w : World) (d : zQr) (val : Nat -> List Val) (u : Int) (force : Bool) : Rt := fun e w' => ∃ q : SV, e = .returned (.tuple #[.slice q.a q.len q.cap, .int .i64 (storeE u force (zQa d val))]) /\
 zXD w w' q (storeEL u force (zQa d val)) /\ ∃ d' val', zQ1 w w' d d' val' /\ zQa d' val' = storeES u force (zQa d val)
theorem xX6.bad (h : zQs w d val) {u : Int} {force : Bool} {w1 : World} (hp : Pu w w1) {n : Int} (hn : storeE u force (zQa d val) = n) (h0 : n ≠ 0) : xX6 w d val u force (.returned (.tuple #[.slice none 0 0, .int .i64 n])) w1 :=
 ⟨⟨none, 0, 0⟩, by rw [hn], by rw [storeEL, hn, if_neg h0]; exact zXD.nil _ _, d, val, zQ1.pu h hp, by
  unfold storeES
  split
  ·next hu =>
   unfold storeE at hn
   rw [if_pos hu] at hn
   rw [storeS, hn, if_neg h0]
  ·rfl⟩
theorem zWm (h : zQs w d val) (hI : Inv (zQa d val)) {u : Nat} (hu : u < 4) {force : Bool} (hc : ¬ (force = false /\ clashK (zQa d val) u ≠ [])) {w1 : World} (hp1 : Pu w w1) :
  yXC (xX6 w d val (u : Int) force) (some ⟨d.S, 0, none⟩) (u : Int) (some (((⟨d.S, 0, none⟩ : Addr).add 3).add ((u : Int).toNat * 4))) 0 [] w1 := by
 have hU : isU (u : Int) = true := by simp [isU]; omega
 have eE : storeE (u : Int) force (zQa d val) = if busyB (zQa d val) u = true then 12 else 0 := by rw [storeE, if_pos hU, zQL, storeC, if_neg hc]
 have hl3 := hI.chl hu
 have hcl := h.cs_len hu
 have hlr := hI.lrL
 refine zQz (d.ch u).length (fun k t w' => t = (k : Int) /\ Pu w1 w' /\ ∀ c ∈ (d.ch u).take k, zWn d u c.1 = false) ⟨rfl, Pu.refl _, by simp⟩ ?_
 rintro k J t w2 hk ⟨ht, hp2, hB⟩ hJ
 obtain rfl : t = (k : Int) := ht
 have h2 := h.pu (hp1.trans hp2)
 refine ⟨d.cs u, h2.uCs hu, Br.of (fun d1 => zQf fun w3 hp3 _ => ?_) (fun d1 => ?_)⟩
 ·have hk2 : k < (d.ch u).length := by have := zQn d1; omega
  obtain ⟨p, hp⟩ := zXg hk2
  have h3 := h2.pu hp3
  obtain ⟨a, ea, hka, g0, _⟩ := h3.chg hu hp
  obtain ⟨l, hl, hkl⟩ := h3.lm
  rw [yQM] at g0
  refine ⟨some d.L, h3.locks, d.cs u, h3.uCs hu, a, ea, by omega, by omega, p.1, by rw [zQL]; exact g0, _, zWb hl _, ?_⟩
  have goOn : zWn d u p.1 = false -> J (IntKind.i64.wrap ((k : Int) + 1)) w3 := fun hb => by
   rw [zQc (by omega) (by omega)]
   refine hJ _ _ hk2 ⟨by omega, hp2.trans hp3, fun c hc => ?_⟩
   rw [zQO hp, List.mem_append] at hc
   rcases hc with hc | hc
   ·exact hB c hc
   ·simp at hc; rw [hc]; exact hb
  rw [hkl]
  cases hv : d.lk p.1 with
  | none => exact Br.of (fun q => by cases q) (fun _ => goOn (by unfold zWn; rw [hv]))
  | some v =>
   have hv2 := hlr p.1 v hv
   refine Br.of (fun _ => Br.of (fun q => ?_) (fun q => goOn ?_)) (fun q => ?_)
   ·have q : v + 1 ≠ (u : Int) + 1 := by
     have := zQC q
     rwa [zQc (n := (u : Int) + 1) (by omega) (by omega)] at this
    have hb : busyB (zQa d val) u = true := by
     rw [zWd, List.any_eq_true]
     exact ⟨p, List.mem_of_getElem? hp, by unfold zWn; rw [hv]; simp; omega⟩
    rw [hb] at eE
    exact xX6.bad h ((hp1.trans hp2).trans hp3) (n := 12) eE (by decide)
   ·have q : v + 1 = (u : Int) + 1 := by
     have := zQw q
     rwa [zQc (n := (u : Int) + 1) (by omega) (by omega)] at this
    unfold zWn; rw [hv]; simp; omega
   ·have : v + 1 = 0 := zQw q
    omega
 ·have hk2 : k = (d.ch u).length := by have := zQg d1; omega
  subst hk2
  rw [List.take_length] at hB
  have hb : busyB (zQa d val) u = false := by
   rw [zWd, List.any_eq_false]
   intro p hp
   rw [hB p hp]; simp
  rw [hb] at eE
  have eE : storeE (u : Int) force (zQa d val) = 0 := eE
  have eC : storeC u force (zQa d val) = 0 := by rw [storeE, if_pos hU, zQL] at eE; exact eE
  refine zY9 h2 hI hu fun w' q d' val' hN hL habs => ?_
  exact ⟨q, by rw [eE], by rw [storeEL, eE, if_pos rfl, zQL]; exact hN.low (hp1.trans hp2).size, d', val', (zQ1.pu h (hp1.trans hp2)).trans hL, by rw [habs, storeES, if_pos hU, zQL, storeS, eC, if_pos rfl]⟩
theorem zVM (h : zQs w d val) (hI : Inv (zQa d val)) (u : Int) (force : Bool) : Calls prog 71 #[d.ptr, .int .i64 u, .bool force] w (xX6 w d val u force) := by
 refine yJS _ u force w _ ((zVa h hI u).mono ?_)
 rintro e w1 ⟨q, rfl, hN, hp1⟩
 refine ⟨q, _, rfl, Br.of (fun c => ?_) (fun c => ?_)⟩
 ·have hu : ¬ isU u = true := zJW c
  have e1 : uC u = 1 := by rw [uC, if_neg hu]
  rw [e1]
  exact xX6.bad h hp1 (by rw [storeE, if_neg hu]) (by decide)
 have hu := zJM c
 obtain ⟨n, rfl, hn⟩ := zQS hu
 have hql := hN.len
 rw [clashesL, if_pos hu, List.length_map, zQL] at hql
 refine Br.of (fun c1 => Br.of (fun c2 => ?_) (fun c2 => ?_)) (fun c1 => ?_)
 ·have c1 := zQn c1
  have c2 : force = false := by simpa using c2
  have hne : clashK (zQa d val) n ≠ [] := List.length_pos_iff.1 (by omega)
  exact xX6.bad h hp1 (by rw [storeE, if_pos hu, zQL, storeC, if_pos ⟨c2, hne⟩]) (by decide)
 ·have c2 : force = true := by simpa using c2
  exact ⟨(u4 hn).1, (u4 hn).2, zWm h hI hn (fun e => by rw [c2] at e; cases e.1) hp1⟩
 ·have c1 := zQg c1
  have he : clashK (zQa d val) n = [] := List.eq_nil_of_length_eq_zero (by omega)
  exact ⟨(u4 hn).1, (u4 hn).2, zWm h hI hn (fun e => e.2 he) hp1⟩
theorem rGo_c (h : zQs w d val) (hI : Inv (zQa d val)) (u k : Int) :
  Calls prog 63 #[d.ptr, .int .i64 u, .int .i64 k] w fun e w' => e = .returned (.int .i64 (goC u k (zQa d val))) /\ ∃ d' val', zQ1 w w' d d' val' /\ zQa d' val' = goS u k (zQa d val) := by
 refine yKi _ u k w _ (Calls.mono (zVU u w) ?_)
 rintro e w1 ⟨rfl, rfl⟩
 have bad : ∀ {w3 : World} (n : Int), Pu w1 w3 -> goC u k (zQa d val) = n -> n ≠ 0 -> Ending.returned (.int .i64 n) = .returned (.int .i64 (goC u k (zQa d val))) /\ ∃ d' val', zQ1 w1 w3 d d' val' /\ zQa d' val' = goS u k (zQa d val) := fun {w3} n hp hn h0 =>
  ⟨by rw [hn], d, val, zQ1.pu h hp, by rw [goS, if_pos (by rw [hn]; exact h0)]⟩
 refine ⟨_, rfl, Br.of (fun c => ?_) (fun c => ?_)⟩
 ·have hu : ¬ isU u = true := by simpa using c
  exact bad 1 (Pu.refl _) (by rw [goC, if_pos hu]) (by decide)
 have hu : isU u = true := by simpa using c
 obtain ⟨n, rfl, hn⟩ := zQS hu
 have eA : ((zQa d val).us n).at_ = d.at_ n := rfl
 have e0 : goC (n : Int) k (zQa d val) = if seenR (zQa d val) n k = none then 4 else if k = d.at_ n then 0 else leaveC n (zQa d val) := by
  rw [goC, if_neg (by simp [hu]), zQL, eA]
 refine Calls.mono (yX4 h hn k (by have := hI.ah hn; omega)) ?_
 rintro e w2 ⟨rfl, rfl⟩
 refine ⟨_, rfl, Br.of (fun c1 => ?_) (fun c1 => ?_)⟩
 ·have c1 : seenR (zQa d val) n k = none := by simpa using c1
  exact bad 4 (Pu.refl _) (by rw [e0, if_pos c1]) (by decide)
 have c1 : seenR (zQa d val) n k ≠ none := by simpa using c1
 rw [if_neg c1] at e0
 have fin : ∀ {w8 : World} {d8 : zQr} {val8 : Nat -> List Val}, zQ1 w2 w8 d d8 val8 -> goC (n : Int) k (zQa d val) = 0 -> zQa d8 val8 = (if k = d.at_ n then zQa d val else leaveS n (zQa d val)) ->
   yZX (fun e w' => e = .returned (.int .i64 (goC (n : Int) k (zQa d val))) /\ ∃ d' val', zQ1 w2 w' d d' val' /\ zQa d' val' = goS (n : Int) k (zQa d val)) (some ⟨d.S, 0, none⟩) (n : Int) k [] w8 := fun {w8 d8 val8} L8 hc hab => by
  refine ⟨(u4 hn).1, (u4 hn).2, ?_⟩
  rw [← show (⟨d8.S, 0, none⟩ : Addr) = ⟨d.S, 0, none⟩ by rw [L8.ptr], zJp, zQe]
  refine L8.sys.own (d' := d8.withAt n k) (by omega) (zKz hn k) rfl rfl (fun x hb => hb.same _ _) fun w9 h9 hf9 hs9 => ?_
  refine ⟨by rw [hc], _, val8, L8.trans (zQ1.cell L8.sys h9 hf9 rfl rfl), ?_⟩
  have eG : goS (n : Int) k (zQa d val) = (if k = d.at_ n then zQa d val else leaveS n (zQa d val)).setU n { (if k = d.at_ n then zQa d val else leaveS n (zQa d val)).us n with at_ := k } := by
   rw [goS, if_neg (by rw [hc]; simp)]
   simp only [zQL, eA]
  rw [zVu, hab, eG]
 have no : ((zQa d val).us n).rows = false ∨ ((zQa d val).us n).emp = true -> leaveC n (zQa d val) = 0 /\ leaveS n (zQa d val) = zQa d val := fun hh => ⟨by rw [leaveC, if_pos hh], by rw [leaveS, if_pos hh]⟩
 refine Calls.mono (yK3 h hn) ?_
 rintro e w3 ⟨rfl, rfl⟩
 refine ⟨_, rfl, Br.of (fun c2 => ⟨(u4 hn).1, (u4 hn).2, d.at_ n, h.uAt hn, Br.of (fun c3 => ?_) (fun c3 => ?_)⟩) (fun c2 => ?_)⟩
 ·have c3 : k ≠ d.at_ n := zQC c3
  refine (yK7 h hn (by have := hI.chl hn; omega) (by have := hI.ah hn; omega)).mono ?_
  rintro e w4 ⟨rfl, hp4⟩
  rw [if_neg c3] at e0
  refine ⟨_, rfl, Br.of (fun c4 => ?_) (fun c4 => ?_)⟩
  ·have c4 : ((zQa d val).us n).emp = false := by simpa using c4
   have hno : ¬ (((zQa d val).us n).rows = false ∨ ((zQa d val).us n).emp = true) := by rw [c2, c4]; simp
   have e1 : leaveC n (zQa d val) = storeE (n : Int) false (zQa d val) := by rw [leaveC, if_neg hno, storeE, if_pos hu, zQL]
   have e2 : leaveS n (zQa d val) = storeES (n : Int) false (zQa d val) := by rw [leaveS, if_neg hno, storeES, if_pos hu, zQL]
   refine (zVM (h.pu hp4) hI (n : Int) false).mono ?_
   rintro e w5 ⟨q, rfl, -, d5, val5, hL, habs⟩
   refine ⟨q, _, rfl, Br.of (fun c5 => ?_) (fun c5 => ?_)⟩
   ·have c5 : storeE (n : Int) false (zQa d val) ≠ 0 := zQC c5
    refine ⟨by rw [e0, e1], d5, val5, (zQ1.pu h hp4).trans hL, ?_⟩
    rw [habs, ← e2, zJt (by rw [e1]; exact c5), goS, if_pos (by rw [e0, e1]; exact c5)]
   ·have c5 : storeE (n : Int) false (zQa d val) = 0 := zQw c5
    exact fin ((zQ1.pu h hp4).trans hL) (by rw [e0, e1, c5]) (by rw [habs, if_neg c3, e2])
  ·have c4 : ((zQa d val).us n).emp = true := by simpa using c4
   exact fin (zQ1.pu h hp4) (by rw [e0, (no (.inr c4)).1]) (by rw [if_neg c3, (no (.inr c4)).2])
 ·have c3 : k = d.at_ n := zQw c3
  exact fin (zQ1.refl h) (by rw [e0, if_pos c3]) (by rw [if_pos c3])
 ·refine fin (zQ1.refl h) ?_ ?_
  ·rw [e0, (no (.inl c2)).1]; simp
  ·rw [(no (.inl c2)).2]; simp
end Go.Proofs.YtcihcbfcgjepfaaGreatDoor
/- Desks: the reference's Append. No condition but those stated. -/
namespace Go.Proofs.YtcihcbfcgjepfaaGreatDoor
open Go.Sh Go.RowKit Tryz
variable {w w' : World} {d d' : zQr} {val : Nat -> List Val}
theorem yWC (h : zQs w d val) {u : Nat} (hu : u < 4) {x : zQy} {r' : SV} (at' : Int) {w5 : World} (hst : w5.heap[d.S]? = some (.cells (zZz (({ d with rs := r' } : zQr).withAt u at')) 125)) (hrow : zQj w5 77 2 r' ((d.rh ++ [x]).flatMap zJF))
  (hb : ∀ b ∈ zQb r', b ∈ zQb d.rs ∨ w.heap.size <= b) (hf : Fr (fun b => b = d.S ∨ b ∈ zQb d.rs) w w5) (hx : zQj w 28 3 x.s ((hv val x).flatMap zXH)) (hxo : ∀ b ∈ zQb x.s, d.o b = some .V) (hxn : ∀ b ∈ zQb x.s, b ∉ vB (zXf d)) :
  ∃ d', zQ1 w w5 d d' val /\ zQa d' val = ({ zQa d val with recs := (zQa d val).recs ++ [toR val x] } : Dsk).setU u { (zQa d val).us u with at_ := at' } := by
 have oR := h.bd.oR
 have ne : ∀ {b : Nat} {κ : zX4}, d.o b = some κ -> κ ≠ .S -> κ ≠ .R -> ¬ (b = d.S ∨ b ∈ zQb d.rs) := fun {b κ} hb h1 h3 e => by
  rcases e with e | e
  ·rw [e, h.bd.oS] at hb; exact h1 (Option.some.inj hb).symm
  ·rw [oR b e] at hb; exact h3 (Option.some.inj hb).symm
 have up : ∀ {b : Nat} {κ : zX4}, d.o b = some κ -> κ ≠ .R -> (if b ∈ zQb r' then some zX4.R else d.o b) = some κ := fun {b κ} hbo hk => by
  have hlw : b < w.heap.size := h.bd.lt b (by rw [hbo]; simp)
  rw [if_neg fun e => ?_]
  ·exact hbo
  ·rcases hb b e with e | e
   ·rw [oR b e] at hbo; exact hk (Option.some.inj hbo).symm
   ·omega
 have hbd := h.bd.gen hu (o' := fun b => if b ∈ zQb r' then some .R else d.o b) (rs' := r') (rh' := d.rh ++ [x]) (as' := d.asv u) (ah' := d.ah u) (cs' := d.cs u) (ch' := d.ch u) (C' := d.C u) hf
  (fun b κ hbo k1 k2 k3 k4 => ⟨ne hbo k1 k2, up hbo k2⟩) (up h.bd.oS (by simp)) hrow (fun b hb2 => if_pos hb2) ((h.bd.aw u hu).fr hf fun b hb => ne (h.bd.oA u hu b hb) (by simp) (by simp)) (fun b hb => up (h.bd.oA u hu b hb) (by simp))
  (fun e => ⟨(h.bd.mp e u hu).fr hf (ne (h.bd.oC e u hu) (by simp) (by simp)), up (h.bd.oC e u hu) (by simp)⟩) (fun e => ⟨(h.bd.ml e u hu).fr hf fun b hb => ne (h.bd.oK e u hu b hb) (by simp) (by simp), fun b hb => up (h.bd.oK e u hu b hb) (by simp)⟩)
  (fun z hz => by
   simp only [List.mem_append, List.mem_singleton] at hz
   rcases hz with (hz | hz) | hz | rfl
   ·exact .inl ⟨z, zZn hu (List.mem_append_left _ hz), rfl⟩
   ·exact .inl ⟨z, zX8 hu hz, rfl⟩
   ·exact .inl ⟨z, zQK hz, rfl⟩
   ·exact .inr ⟨hx.fr hf fun b hb => ne (hxo b hb) (by simp) (by simp), fun b hb => up (hxo b hb) (by simp)⟩) (by
   have p := zJg d hu
   have e : zXa d u = d.rh ++ (zXa d u).drop d.rh.length := by simp [zXa]
   rw [e, ← List.append_assoc] at p
   have := yQR p h.bd.nd hxn
   simpa [zKM, uH, List.append_assoc] using this) (fun b hbo => by
   by_cases e2 : b ∈ zQb r'
   ·exact hrow.lt b e2
   ·rw [if_neg e2] at hbo
    exact Nat.lt_of_lt_of_le (h.bd.lt b hbo) hf.size)
 have hC : zZz ({ (d.gen u (fun b => if b ∈ zQb r' then some .R else d.o b) r' (d.rh ++ [x]) (d.asv u) (d.ah u) (d.cs u) (d.ch u) (d.C u)) with at_ := fun v => if v = u then at' else d.at_ v } : zQr) = zZz (({ d with rs := r' } : zQr).withAt u at') := by
  have e : ∀ {α : Type} (f : Nat -> α), (fun v => if v = u then f u else f v) = f := fun f => by funext v; by_cases e : v = u <;> simp [e]
  simp only [zQr.gen, e]
  rfl
 refine ⟨{ (d.gen u (fun b => if b ∈ zQb r' then some .R else d.o b) r' (d.rh ++ [x]) (d.asv u) (d.ah u) (d.cs u) (d.ch u) (d.C u)) with at_ := fun v => if v = u then at' else d.at_ v }, ⟨⟨by rw [hC]; exact hst, hbd.same d.mode (fun v => if v = u then at' else d.at_ v), h.sd⟩, hf.mono fun i hi _ => ?_, fun b hbo => ?_, rfl⟩, ?_⟩
 ·rcases hi with rfl | hi
  ·rw [h.bd.oS]; simp
  ·rw [oR i hi]; simp
 ·have hbo : (if b ∈ zQb r' then some zX4.R else d.o b) ≠ none := hbo
  by_cases e2 : b ∈ zQb r'
  ·rcases hb b e2 with h1 | h1
   ·left; rw [oR b h1]; simp
   ·right; exact h1
  ·rw [if_neg e2] at hbo; exact .inl hbo
 ·simp only [zQa, Dsk.setU, Dsk.mk.injEq]
  refine ⟨rfl, rfl, by simp [zQr.gen], ?_, rfl⟩
  funext v
  by_cases e : v = u
  ·subst e; simp [zJ2, zQr.gen]
  ·simp [zJ2, zQr.gen, e]
theorem xZy (h : zQs w d val) {u : Nat} (hu : u < 4) {x : zQy} {r' : SV} (at' : Int) {w5 : World} (hst : w5.heap[d.S]? = some (.cells (zZz (({ d with asv := fun v => if v = u then r' else d.asv v } : zQr).withAt u at')) 125)) (hrow : zQj w5 77 2 r' ((d.ah u ++ [x]).flatMap zJF))
  (hb : ∀ b ∈ zQb r', b ∈ zQb (d.asv u) ∨ w.heap.size <= b) (hf : Fr (fun b => b = d.S ∨ b ∈ zQb (d.asv u)) w w5) (hx : zQj w 28 3 x.s ((hv val x).flatMap zXH)) (hxo : ∀ b ∈ zQb x.s, d.o b = some .V) (hxn : ∀ b ∈ zQb x.s, b ∉ vB (zXf d)) :
  ∃ d', zQ1 w w5 d d' val /\ zQa d' val = (zQa d val).setU u { (zQa d val).us u with ap := ((zQa d val).us u).ap ++ [toR val x], at_ := at' } := by
 have oR := h.bd.oA u hu
 have ne : ∀ {b : Nat} {κ : zX4}, d.o b = some κ -> κ ≠ .S -> κ ≠ .A u -> ¬ (b = d.S ∨ b ∈ zQb (d.asv u)) := fun {b κ} hb h1 h3 e => by
  rcases e with e | e
  ·rw [e, h.bd.oS] at hb; exact h1 (Option.some.inj hb).symm
  ·rw [oR b e] at hb; exact h3 (Option.some.inj hb).symm
 have up : ∀ {b : Nat} {κ : zX4}, d.o b = some κ -> κ ≠ .A u -> (if b ∈ zQb r' then some (zX4.A u) else d.o b) = some κ := fun {b κ} hbo hk => by
  have hlw : b < w.heap.size := h.bd.lt b (by rw [hbo]; simp)
  rw [if_neg fun e => ?_]
  ·exact hbo
  ·rcases hb b e with e | e
   ·rw [oR b e] at hbo; exact hk (Option.some.inj hbo).symm
   ·omega
 have hbd := h.bd.gen hu (o' := fun b => if b ∈ zQb r' then some (.A u) else d.o b) (rs' := d.rs) (rh' := d.rh) (as' := r') (ah' := d.ah u ++ [x]) (cs' := d.cs u) (ch' := d.ch u) (C' := d.C u) hf
  (fun b κ hbo k1 k2 k3 k4 => ⟨ne hbo k1 k3, up hbo k3⟩) (up h.bd.oS (by simp)) (h.bd.rw_.fr hf fun b hb => ne (h.bd.oR b hb) (by simp) (by simp)) (fun b hb => up (h.bd.oR b hb) (by simp)) hrow (fun b hb2 => if_pos hb2)
  (fun e => ⟨(h.bd.mp e u hu).fr hf (ne (h.bd.oC e u hu) (by simp) (by simp)), up (h.bd.oC e u hu) (by simp)⟩) (fun e => ⟨(h.bd.ml e u hu).fr hf fun b hb => ne (h.bd.oK e u hu b hb) (by simp) (by simp), fun b hb => up (h.bd.oK e u hu b hb) (by simp)⟩)
  (fun z hz => by
   simp only [List.mem_append, List.mem_singleton] at hz
   rcases hz with (hz | hz | rfl) | hz
   ·exact .inl ⟨z, zZn hu (List.mem_append_left _ hz), rfl⟩
   ·exact .inl ⟨z, zX8 hu hz, rfl⟩
   ·exact .inr ⟨hx.fr hf fun b hb => ne (hxo b hb) (by simp) (by simp), fun b hb => up (hxo b hb) (by simp)⟩
   ·exact .inl ⟨z, zQK hz, rfl⟩) (by
   have p := zJg d hu
   have e : zXa d u = d.rh ++ (zXa d u).drop d.rh.length := by simp [zXa]
   rw [e] at p
   have := yQR p h.bd.nd hxn
   simpa [zKM, uH, List.append_assoc] using this) (fun b hbo => by
   by_cases e2 : b ∈ zQb r'
   ·exact hrow.lt b e2
   ·rw [if_neg e2] at hbo
    exact Nat.lt_of_lt_of_le (h.bd.lt b hbo) hf.size)
 have hC : zZz ({ (d.gen u (fun b => if b ∈ zQb r' then some (.A u) else d.o b) d.rs d.rh r' (d.ah u ++ [x]) (d.cs u) (d.ch u) (d.C u)) with at_ := fun v => if v = u then at' else d.at_ v } : zQr) = zZz (({ d with asv := fun v => if v = u then r' else d.asv v } : zQr).withAt u at') := by
  have e : ∀ {α : Type} (f : Nat -> α), (fun v => if v = u then f u else f v) = f := fun f => by funext v; by_cases e : v = u <;> simp [e]
  simp only [zQr.gen, e]
  rfl
 refine ⟨{ (d.gen u (fun b => if b ∈ zQb r' then some (.A u) else d.o b) d.rs d.rh r' (d.ah u ++ [x]) (d.cs u) (d.ch u) (d.C u)) with at_ := fun v => if v = u then at' else d.at_ v }, ⟨⟨by rw [hC]; exact hst, hbd.same d.mode (fun v => if v = u then at' else d.at_ v), h.sd⟩, hf.mono fun i hi _ => ?_, fun b hbo => ?_, rfl⟩, ?_⟩
 ·rcases hi with rfl | hi
  ·rw [h.bd.oS]; simp
  ·rw [oR i hi]; simp
 ·have hbo : (if b ∈ zQb r' then some (zX4.A u) else d.o b) ≠ none := hbo
  by_cases e2 : b ∈ zQb r'
  ·rcases hb b e2 with h1 | h1
   ·left; rw [oR b h1]; simp
   ·right; exact h1
  ·rw [if_neg e2] at hbo; exact .inl hbo
 ·simp only [zQa, Dsk.setU, Dsk.mk.injEq]
  refine ⟨rfl, rfl, rfl, ?_, rfl⟩
  funext v
  by_cases e : v = u
  ·subst e; simp [zJ2, zQr.gen]
  ·simp [zJ2, zQr.gen, e]
theorem rAll_c (h : zQs w d val) (hI : Inv (zQa d val)) : Calls prog 124 #[d.ptr] w fun e w' => e = .returned (.int .i64 (allN (zQa d val) : Nat)) /\ w' = w := by
 have hr3 := hI.rh
 have hrl := h.rs_len
 have ha3 : ∀ v, v < 4 -> (d.ah v).length <= 300 := fun v hv => hI.ah hv
 refine yXH _ w _ ⟨d.rs, h.recs, ?_⟩
 refine zQz 4 (fun k t w' => t.2 = (k : Int) /\ t.1 = ((d.rh.length + zJq d k : Nat) : Int) /\ w' = w) ⟨rfl, by rw [hrl]; rfl, rfl⟩ ?_
 rintro k J ⟨t, m⟩ w4 hk ⟨hm, ht, rfl⟩ hJ
 obtain rfl : m = (k : Int) := hm
 obtain rfl : t = ((d.rh.length + zJq d k : Nat) : Int) := ht
 refine Br.of (fun d1 => ?_) (fun d1 => ?_)
 ·have hk2 : k < 4 := by have := zQn d1; dsimp only at this; omega
  have h1 := ha3 k hk2
  have h2 := h.as_len hk2
  have hsum : zJq d k <= 300 * k := by
   clear hJ
   have : ∀ j, j <= 4 -> zJq d j <= 300 * j := fun j => by
    induction j with
    | zero => intro _; simp [zJq]
    | succ j ih =>
     intro hj
     have := ih (by omega)
     have := ha3 j (by omega)
     simp only [zJq]; omega
   exact this k (by omega)
  refine ⟨by omega, by omega, d.asv k, h.uAp hk2, ?_⟩
  rw [zQc (n := _ + ((d.asv k).len : Int)) (by omega) (by omega), zQc (n := (k : Int) + 1) (by omega) (by omega)]
  refine hJ _ _ hk2 ⟨by simp, ?_, rfl⟩
  show _ = (((d.rh.length + (zJq d k + (d.ah k).length) : Nat)) : Int)
  rw [h2]; omega
 ·have hk2 : k = 4 := by have := zQg d1; dsimp only at this; omega
  subst hk2
  exact ⟨by rw [zYT d val], rfl⟩
def RApP (w : World) (d : zQr) (val : Nat -> List Val) (u : Int) : Rt := fun e w' => e = .returned (.tuple #[.int .i64 (appN u (zQa d val)), .int .i64 (appC u (zQa d val))]) /\ ∃ d' val', zQ1 w w' d d' val' /\ zQa d' val' = appS u (zQa d val)
theorem zZZ {w0 : World} {d0 : zQr} {val0 : Nat -> List Val} (L : zQ1 w0 w d0 d val) (hI : Inv (zQa d val)) {n : Nat} (hn : n < 4) (eC : appC (n : Int) (zQa d0 val0) = if 300 <= allN (zQa d val) then 3 else 0)
  (eS : appS (n : Int) (zQa d0 val0) = if 300 <= allN (zQa d val) then zQa d val else appendedS n (zQa d val)) :
  Calls prog 124 #[.pointer (some ⟨d0.S, 0, none⟩)] w fun e w34 => ∃ n31 : Int, e = .returned (.int .i64 n31) /\ Br (decide (n31 >= 300)) (RApP w0 d0 val0 (n : Int) (.returned (.tuple #[.int .i64 0, .int .i64 3])) w34)
   (zQi (some ⟨d0.S, 0, none⟩) fun a36 => ∃ l37 : SV, w34.cell? (a36.add 1) = some (.slice l37.a l37.len l37.cap) /\ Calls prog 125 #[.slice l37.a l37.len l37.cap] w34 fun e w37 => ∃ b38_0 : Bool, ∃ l38_1 : SV, e = .returned (.agg #[.bool b38_0, .slice l38_1.a l38_1.len l38_1.cap]) /\
    alE (.cells #[.bool false, .slice none 0 0] 77) w37 fun r8 w38 => stA prog 77 (⟨r8, 0, none⟩ : Addr) #[.bool b38_0, .slice l38_1.a l38_1.len l38_1.cap] w38 fun w39 => yJU (RApP w0 d0 val0 (n : Int)) (some ⟨d0.S, 0, none⟩) (n : Int) (some (⟨r8, 0, none⟩ : Addr)) [] w39) := by
 have h3 := L.sys
 have hu : isU (n : Int) = true := by simp [isU]; omega
 rw [← show (⟨d.S, 0, none⟩ : Addr) = ⟨d0.S, 0, none⟩ by rw [L.ptr]]
 refine Calls.mono (rAll_c h3 hI) ?_
 rintro e w4 ⟨rfl, rfl⟩
 refine ⟨_, rfl, Br.of (fun c2 => ?_) (fun c2 => ?_)⟩
 ·have c2 : 300 <= allN (zQa d val) := by have := zQn c2; omega
  rw [if_pos c2] at eC eS
  exact ⟨by rw [appN, eC, if_neg (by decide)], d, val, L, by rw [eS]⟩
 have c2 : ¬ 300 <= allN (zQa d val) := by have := zQg c2; omega
 rw [if_neg c2] at eC eS
 have hr3 := hI.rh
 have hrl := h3.rs_len
 have ha3 : ∀ v, v < 4 -> (d.ah v).length <= 300 := fun v hv => hI.ah hv
 have hf16 : d.flds.length <= 16 := hI.f16
 have hl1 : 0 < d.flds.length := List.length_pos_iff.2 (zQE hI.vf).1
 refine ⟨d.fs, h3.flds, (zYA (h3.fld hI.vf) hf16).mono ?_⟩
 rintro e w5 ⟨q, rfl, hq, hp5⟩
 refine ⟨_, q, rfl, alB fun w6 hp6 hb6 => zQl hb6 yQw.symm rfl rfl fun w7 hb7 hf7 _ => ?_⟩
 have hp57 : Pu w5 w7 := hp6.andNew hf7 fun i hi => by rw [show i = w5.heap.size from hi]; exact Nat.le_refl _
 have hp47 := hp5.trans hp57
 have h7 := h3.pu hp47
 obtain ⟨aq, haq⟩ := zXy (i := 0) hq.1 (by simpa using hl1)
 have bq : zQb q = [aq.block] := by simp [zQb, haq]
 have q1 : w4.heap.size <= aq.block := hq.2 _ (by rw [bq]; simp)
 have q2 : aq.block < w5.heap.size := hq.1.lt _ (by rw [bq]; simp)
 have oq : d.o aq.block = none := h3.bd.out q1
 have z57 := hp57.size
 have own : ∀ w9, Pu w7 w9 -> zQs w9 (d.ad aq.block) (zX6 val aq.block (d.flds.map zQ3)) := fun w9 hp => by
  have h9 := h7.pu hp
  have z := hp.size
  exact ⟨h9.st, h9.bd.ad oq (by omega) _, h9.sd⟩
 have xv : hv (zX6 val aq.block (d.flds.map zQ3)) ⟨false, q⟩ = d.flds.map zQ3 := zZj haq rfl
 have xo : ∀ b ∈ zQb (⟨false, q⟩ : zQy).s, (d.ad aq.block).o b = some .V := fun b hb => by
  have hb : b ∈ zQb q := hb
  rw [bq] at hb; simp at hb
  show (if b = aq.block then _ else _) = _
  rw [if_pos hb]
 have xn : ∀ b ∈ zQb (⟨false, q⟩ : zQy).s, b ∉ vB (zXf (d.ad aq.block)) := fun b hb hx => by
  have hb : b ∈ zQb q := hb
  rw [bq] at hb; simp at hb
  have := h3.bd.oV b hx
  rw [hb, oq] at this; cases this
 have ha9 : zQa (d.ad aq.block) (zX6 val aq.block (d.flds.map zQ3)) = zQa d val := zV2 h3.bd oq
 have xr : toR (zX6 val aq.block (d.flds.map zQ3)) ⟨false, q⟩ = blankR (zQa d val) := by rw [toR, xv]; rfl
 have L9 : ∀ w9, Pu w7 w9 -> zQ1 w0 w9 d0 (d.ad aq.block) (zX6 val aq.block (d.flds.map zQ3)) := fun w9 hp => by
  refine L.trans ⟨own w9 hp, Fr.pu (hp47.trans hp), fun b hb => ?_, rfl⟩
  have hb : (if b = aq.block then some zX4.V else d.o b) ≠ none := hb
  by_cases e : b = aq.block
  ·right; omega
  ·rw [if_neg e] at hb; exact .inl hb
 have fin : ∀ {wF : World} {dF : zQr} {valF : Nat -> List Val} (at' : Int), zQ1 w0 wF d0 dF valF -> zQa dF valF = appendedS n (zQa d val) -> ((appendedS n (zQa d val)).us n).at_ = at' -> RApP w0 d0 val0 (n : Int) (.returned (.tuple #[.int .i64 at', .int .i64 0])) wF := fun {wF dF valF} at' LF hab hat =>
  ⟨by rw [appN, eC, if_pos rfl, eS, zQL, hat], dF, valF, LF, by rw [hab, eS]⟩
 have eM : ((zQa d val).us n).mode = d.mode n := rfl
 refine ⟨(u4 hn).1, (u4 hn).2, _, h7.uMode hn, Br.of (fun c3 => zQf fun w8 hp8 _ => ?_) (fun c3 => zQf fun w8 hp8 _ => ?_)⟩
 ·have c3 : d.mode n = 0 := zQ6 c3
  have h8 := h7.pu hp8
  have hb8 := hp8.blk hb7
  refine ⟨fun y => Pu w8 y, Pu.refl _, d.rs, fun y hy => hy.cell h8.recs, _, fun y hy => cl (hy.blk hb8) 0, q, fun y hy => cl (hy.blk hb8) 1, alB fun w9 hp9 hb9 => ⟨hp9, ?_⟩⟩
  have h9 := own w9 (hp8.trans hp9)
  have hrow9 : zQj w9 77 2 d.rs (d.rh.flatMap zJF) := h9.bd.rw_
  obtain ⟨r', w10, hra, hrow10, hf10, hblk10, _⟩ := zQ2 (P := prog) (ty := 23) yYn zJh rfl (by omega) hrow9 (A := some ⟨w8.heap.size, 0, none⟩) (m := 1) (c := 1) (news := [.bool false, .slice q.a q.len q.cap]) rfl (fun j y hy => ⟨_, rfl, by rw [cl hb9]; simpa using hy⟩) (fun y hy => by simp at hy; rcases hy with rfl | rfl <;> rfl) (by show (d.rs.len + 1) * (32 + 1) <= _; omega)
  refine ⟨r', w10, hra, ?_⟩
  have hrb : ∀ b ∈ zQb r', b ∈ zQb d.rs ∨ w9.heap.size <= b := hblk10
  have nSr : ∀ b ∈ zQb d.rs, ¬ b = d.S := fun b hb e => by
   have := h3.bd.oR b hb; rw [e, h3.bd.oS] at this; cases this
  have nSr' : ∀ b ∈ zQb r', ¬ b = d.S := fun b hb e => by
   rcases hrb b hb with h1 | h1
   ·exact nSr b h1 e
   ·have := h9.bd.lt d.S (by have := h9.bd.oS; rw [show (d.ad aq.block).S = d.S from rfl] at this; rw [this]; simp)
    omega
  have hst10 : w10.heap[d.S]? = some (.cells (zZz d) 125) := hf10.blk h9.st fun e => nSr _ e rfl
  rw [zQ9, zQe]
  refine zQv hst10 (by show 0 + 2 < 20; omega) fun w11 hw11 hb11 => zQf fun w12 hp12 _ => ?_
  have hf11 : Fr (· = d.S) w10 w11 := by rw [hw11]; exact Fr.cell w10 _ _ _
  have hb11 : w11.heap[d.S]? = some (.cells (zZz { d with rs := r' }) 125) := hb11
  have hb12 := hp12.blk hb11
  refine ⟨r', by rw [zQe, zQo hb12]; rfl, (u4 hn).1, (u4 hn).2, ?_⟩
  rw [zJp, zQe]
  refine zQv hb12 (by show 3 + n * 4 + 1 < 20; omega) fun w13 hw13 hb13 => ?_
  have hf13 : Fr (· = d.S) w12 w13 := by rw [hw13]; exact Fr.cell w12 _ _ _
  rw [zKz hn] at hb13
  have er : r'.len = d.rh.length + 1 := by
   have h1 := hrow10.1
   simp only [List.length_append, zQu zQk, List.length_cons, List.length_nil] at h1
   omega
  have eat : ((r'.len : Nat) : Int) = (d.rh.length : Int) + 1 := by rw [er]; omega
  have hrow13 : zQj w13 77 2 r' ((d.rh ++ [(⟨false, q⟩ : zQy)]).flatMap zJF) := by
   rw [List.flatMap_append, List.flatMap_singleton]
   exact ((hrow10.fr hf11 nSr').pu hp12).fr hf13 nSr'
  have hF : Fr (fun b => b = d.S ∨ b ∈ zQb d.rs) w9 w13 := (((hf10.mono (B' := fun b => b = d.S ∨ b ∈ zQb d.rs) fun i hi _ => .inr hi).trans hf11 fun i hi _ => .inl hi).trans (Fr.pu hp12 : Fr (fun b => b = d.S ∨ b ∈ zQb d.rs) w11 w12) fun i hi _ => hi).trans hf13 fun i hi _ => .inl hi
  obtain ⟨dF, hLF, habF⟩ := yWC h9 hn ((r'.len : Nat) : Int) hb13 hrow13 hrb hF (by rw [xv]; exact (hq.1.pu hp57).pu (hp8.trans hp9)) xo xn
  refine ⟨(u4 hn).1, (u4 hn).2, ((r'.len : Nat) : Int), by rw [zJp, zQe, zQo hb13]; exact (yQP (d := ({ d with rs := r' } : zQr).withAt n ((r'.len : Nat) : Int)) hn).trans (by simp [zQr.withAt]), ?_⟩
  rw [ha9, xr] at habF
  have eA : appendedS n (zQa d val) = ({ zQa d val with recs := (zQa d val).recs ++ [blankR (zQa d val)] } : Dsk).setU n { (zQa d val).us n with at_ := ((zQa d val).recs.length : Int) + 1 } := by
   unfold appendedS; rw [eM, if_pos c3]
  have eL : (zQa d val).recs.length = d.rh.length := by simp [zQa]
  refine fin _ ((L9 w9 (hp8.trans hp9)).trans hLF) ?_ ?_
  ·rw [habF, eA, eL, eat]
  ·rw [eA, eL, eat]; simp [Dsk.setU]
 ·have c3 : d.mode n ≠ 0 := zQm c3
  have h8 := h7.pu hp8
  have hb8 := hp8.blk hb7
  refine ⟨fun y => Pu w8 y, Pu.refl _, (u4 hn).1, (u4 hn).2, d.asv n, fun y hy => hy.cell (h8.uAp hn), _, fun y hy => cl (hy.blk hb8) 0, q, fun y hy => cl (hy.blk hb8) 1, ?_⟩
  rw [zQ9]
  refine alB fun w9 hp9 hb9 => ⟨hp9, ?_⟩
  have h9 := own w9 (hp8.trans hp9)
  have hrow9 : zQj w9 77 2 (d.asv n) ((d.ah n).flatMap zJF) := h9.bd.aw n hn
  have hal := h3.as_len hn
  have hal3 := ha3 n hn
  obtain ⟨r', w10, hra, hrow10, hf10, hblk10, _⟩ := zQ2 (P := prog) (ty := 23) yYn zJh rfl (by omega) hrow9 (A := some ⟨w8.heap.size, 0, none⟩) (m := 1) (c := 1) (news := [.bool false, .slice q.a q.len q.cap]) rfl (fun j y hy => ⟨_, rfl, by rw [cl hb9]; simpa using hy⟩) (fun y hy => by simp at hy; rcases hy with rfl | rfl <;> rfl) (by show ((d.asv n).len + 1) * (32 + 1) <= _; omega)
  refine ⟨r', w10, hra, (u4 hn).1, (u4 hn).2, ?_⟩
  have hrb : ∀ b ∈ zQb r', b ∈ zQb (d.asv n) ∨ w9.heap.size <= b := hblk10
  have nSr : ∀ b ∈ zQb (d.asv n), ¬ b = d.S := fun b hb e => by
   have := h3.bd.oA n hn b hb; rw [e, h3.bd.oS] at this; cases this
  have nSr' : ∀ b ∈ zQb r', ¬ b = d.S := fun b hb e => by
   rcases hrb b hb with h1 | h1
   ·exact nSr b h1 e
   ·have := h9.bd.lt d.S (by have := h9.bd.oS; rw [show (d.ad aq.block).S = d.S from rfl] at this; rw [this]; simp)
    omega
  have hst10 : w10.heap[d.S]? = some (.cells (zZz d) 125) := hf10.blk h9.st fun e => nSr _ e rfl
  rw [zJp, zQe]
  refine zQv hst10 (by show 3 + n * 4 + 3 < 20; omega) fun w11 hw11 hb11 => zQf fun w12 hp12 _ => ?_
  have hf11 : Fr (· = d.S) w10 w11 := by rw [hw11]; exact Fr.cell w10 _ _ _
  rw [yQ8 hn] at hb11
  have hb12 := hp12.blk hb11
  refine ⟨(u4 hn).1, (u4 hn).2, r', by rw [zJp, zQe, zQo hb12]; exact (yW3 (d := { d with asv := fun v => if v = n then r' else d.asv v }) hn).trans (by simp), (u4 hn).1, (u4 hn).2, ?_⟩
  have er : r'.len = (d.ah n).length + 1 := by
   have h1 := hrow10.1
   simp only [List.length_append, zQu zQk, List.length_cons, List.length_nil] at h1
   omega
  rw [zQc (n := 0 - ((r'.len : Nat) : Int)) (by omega) (by omega), zJp, zQe]
  refine zQv hb12 (by show 3 + n * 4 + 1 < 20; omega) fun w13 hw13 hb13 => ?_
  have hf13 : Fr (· = d.S) w12 w13 := by rw [hw13]; exact Fr.cell w12 _ _ _
  rw [zKz hn] at hb13
  have eat : 0 - ((r'.len : Nat) : Int) = -((d.ah n).length : Int) - 1 := by rw [er]; omega
  have hrow13 : zQj w13 77 2 r' ((d.ah n ++ [(⟨false, q⟩ : zQy)]).flatMap zJF) := by
   rw [List.flatMap_append, List.flatMap_singleton]
   exact ((hrow10.fr hf11 nSr').pu hp12).fr hf13 nSr'
  have hF : Fr (fun b => b = d.S ∨ b ∈ zQb (d.asv n)) w9 w13 := (((hf10.mono (B' := fun b => b = d.S ∨ b ∈ zQb (d.asv n)) fun i hi _ => .inr hi).trans hf11 fun i hi _ => .inl hi).trans (Fr.pu hp12 : Fr (fun b => b = d.S ∨ b ∈ zQb (d.asv n)) w11 w12) fun i hi _ => hi).trans hf13 fun i hi _ => .inl hi
  obtain ⟨dF, hLF, habF⟩ := xZy h9 hn (0 - ((r'.len : Nat) : Int)) hb13 hrow13 hrb hF (by rw [xv]; exact (hq.1.pu hp57).pu (hp8.trans hp9)) xo xn
  refine ⟨(u4 hn).1, (u4 hn).2, 0 - ((r'.len : Nat) : Int), by rw [zJp, zQe, zQo hb13]; exact (yQP (d := ({ d with asv := fun v => if v = n then r' else d.asv v } : zQr).withAt n (0 - ((r'.len : Nat) : Int))) hn).trans (by simp [zQr.withAt]), ?_⟩
  rw [ha9, xr] at habF
  have eA : appendedS n (zQa d val) = (zQa d val).setU n { (zQa d val).us n with ap := ((zQa d val).us n).ap ++ [blankR (zQa d val)], at_ := -((d.ah n).length : Int) - 1 } := by
   unfold appendedS; rw [eM, if_neg c3, zX0]
  refine fin _ ((L9 w9 (hp8.trans hp9)).trans hLF) ?_ ?_
  ·rw [habF, eA, eat]
  ·rw [eA, eat]; simp [Dsk.setU]
theorem yWo (h : zQs w d val) (hI : Inv (zQa d val)) (u : Int) : Calls prog 66 #[d.ptr, .int .i64 u] w (RApP w d val u) := by
 refine yJE _ u w _ (Calls.mono (zVU u w) ?_)
 rintro e w1 ⟨rfl, rfl⟩
 refine ⟨_, rfl, Br.of (fun c => ?_) (fun c => ?_)⟩
 ·have hu : ¬ isU u = true := by simpa using c
  have e2 : appC u (zQa d val) = 1 := by rw [appC, if_pos hu]
  exact ⟨by rw [appN, e2, if_neg (by decide)], d, val, zQ1.refl h, by rw [appS, if_pos hu]⟩
 have hu : isU u = true := by simpa using c
 obtain ⟨n, rfl, hn⟩ := zQS hu
 have eC : appC (n : Int) (zQa d val) = if leaveC n (zQa d val) ≠ 0 then leaveC n (zQa d val) else if 300 <= allN (leaveS n (zQa d val)) then 3 else 0 := by
  rw [appC, if_neg (by simp [hu]), zQL]
 have eS : appS (n : Int) (zQa d val) = if leaveC n (zQa d val) ≠ 0 then zQa d val else if 300 <= allN (leaveS n (zQa d val)) then leaveS n (zQa d val) else appendedS n (leaveS n (zQa d val)) := by
  rw [appS, if_neg (by simp [hu]), zQL]
 have no : ((zQa d val).us n).rows = false ∨ ((zQa d val).us n).emp = true -> (appC (n : Int) (zQa d val) = if 300 <= allN (zQa d val) then 3 else 0) /\ (appS (n : Int) (zQa d val) = if 300 <= allN (zQa d val) then zQa d val else appendedS n (zQa d val)) := fun hh => by
  have e1 : leaveC n (zQa d val) = 0 := by rw [leaveC, if_pos hh]
  have e2 : leaveS n (zQa d val) = zQa d val := by rw [leaveS, if_pos hh]
  rw [eC, eS, e1, e2]
  exact ⟨if_neg (by simp), if_neg (by simp)⟩
 refine Calls.mono (yK3 h hn) ?_
 rintro e w2 ⟨rfl, rfl⟩
 refine ⟨_, rfl, Br.of (fun c2 => ?_) (fun c2 => ?_)⟩
 ·refine (yK7 h hn (by have := hI.chl hn; omega) (by have := hI.ah hn; omega)).mono ?_
  rintro e w4 ⟨rfl, hp4⟩
  refine ⟨_, rfl, Br.of (fun c4 => ?_) (fun c4 => ?_)⟩
  ·have c4 : ((zQa d val).us n).emp = false := by simpa using c4
   have hno : ¬ (((zQa d val).us n).rows = false ∨ ((zQa d val).us n).emp = true) := by rw [c2, c4]; simp
   have e1 : leaveC n (zQa d val) = storeE (n : Int) false (zQa d val) := by rw [leaveC, if_neg hno, storeE, if_pos hu, zQL]
   have e2 : leaveS n (zQa d val) = storeES (n : Int) false (zQa d val) := by rw [leaveS, if_neg hno, storeES, if_pos hu, zQL]
   refine (zVM (h.pu hp4) hI (n : Int) false).mono ?_
   rintro e w5 ⟨q, rfl, -, d5, val5, hL, habs⟩
   refine ⟨q, _, rfl, Br.of (fun c5 => ?_) (fun c5 => ?_)⟩
   ·have c5 : storeE (n : Int) false (zQa d val) ≠ 0 := zQC c5
    have c6 : leaveC n (zQa d val) ≠ 0 := by rw [e1]; exact c5
    rw [if_pos c6] at eC eS
    refine ⟨by rw [appN, eC, if_neg c6, e1], d5, val5, (zQ1.pu h hp4).trans hL, ?_⟩
    rw [habs, ← e2, zJt c6, eS]
   ·have c5 : storeE (n : Int) false (zQa d val) = 0 := zQw c5
    have c6 : leaveC n (zQa d val) = 0 := by rw [e1]; exact c5
    rw [if_neg (by simp [c6])] at eC eS
    have hI5 : Inv (zQa d5 val5) := by rw [habs]; exact hI.storeE _ _
    rw [e2, ← habs] at eC eS
    exact zZZ ((zQ1.pu h hp4).trans hL) hI5 hn eC eS
  ·have c4 : ((zQa d val).us n).emp = true := by simpa using c4
   exact zZZ (zQ1.pu h hp4) hI hn (no (.inr c4)).1 (no (.inr c4)).2
 ·exact zZZ (zQ1.refl h) hI hn (no (.inl c2)).1 (no (.inl c2)).2
end Go.Proofs.YtcihcbfcgjepfaaGreatDoor
