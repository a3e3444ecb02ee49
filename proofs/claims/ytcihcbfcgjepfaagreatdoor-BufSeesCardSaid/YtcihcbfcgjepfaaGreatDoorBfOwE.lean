import Derived.Test.YtcihcbfcgjepfaaGreatDoorBfOwB
import Derived.Test.YtcihcbfcgjepfaaGreatDoorBfPrB
import Derived.Test.YtcihcbfcgjepfaaGreatDoorShTwentyThree
import Derived.Test.YtcihcbfcgjepfaaGreatDoorBfOwD
import Derived.Test.YtcihcbfcgjepfaaGreatDoorBfOwC
/- Table: in which records two tables differ; the law on it. No condition. -/
set_option maxRecDepth 100000
set_option linter.unusedVariables false
set_option linter.unusedSimpArgs false
namespace Go.Proofs.YtcihcbfcgjepfaaGreatDoor
open Go.Sh Go.RowKit Tryz
theorem yVr : zW7 prog 38 [.str, .int .i64, .int .i64, .bool] = true := by kernel_rfl
theorem xXI : prog.eqGuardType prog.depth 38 = false := by kernel_rfl
theorem yKm : zW7 prog 28 [.int .i64, .int .i64, .str] = true := by kernel_rfl
theorem yVl {a b : Fld} (h : zKS a = zKS b) : a = b := by
 obtain ⟨a1, a2, a3, a4⟩ := a; obtain ⟨b1, b2, b3, b4⟩ := b
 simp [zKS] at h; simp [h]
theorem neFld (x y : Operand) (a b : Fld) (w : World) : (eqS .neq 38 x y (yQ2 a) (yQ2 b)).run prog w = .ok (.bool (!decide (a = b))) w := by
 refine yXp (ks := [.str, .int .i64, .int .i64, .bool]) (xs := zKS a) (ys := zKS b) yVr xXI rfl rfl ?_ w
 rw [decide_eq_true_iff]
 exact ⟨fun h => by rw [h], yVl⟩
theorem yYe (x y : Operand) (a b : Val) (w : World) : (eqS .neq 28 x y (zZc a) (zZc b)).run prog w = .ok (.bool (!decide (a = b))) w := by
 refine yXp (ks := [.int .i64, .int .i64, .str]) (xs := zXH a) (ys := zXH b) yKm yJM rfl rfl ?_ w
 rw [decide_eq_true_iff]
 exact ⟨fun h => by rw [h], yXe⟩
structure RdF (w : World) (s : SV) (l : List Fld) : Prop where
 len : s.len = l.length
 lim : l.length <= 140737488355328
 get : ∀ i f, l[i]? = some f -> ∃ a, s.a = some a /\ w.cell? ((a.add (i * 4)).add 0) = some (.string f.name) /\ w.cell? ((a.add (i * 4)).add 1) = some (.int .i64 f.kind) /\ w.cell? ((a.add (i * 4)).add 2) = some (.int .i64 f.width) /\ w.cell? ((a.add (i * 4)).add 3) = some (.bool f.null)
theorem RdF.pu {w w' : World} {s : SV} {l : List Fld} (h : RdF w s l) (hp : Pu w w') : RdF w' s l := ⟨h.len, h.lim, fun i v hv => by
 obtain ⟨a, h1, h2, h3, h4, h5⟩ := h.get i v hv
 exact ⟨a, h1, hp.cell h2, hp.cell h3, hp.cell h4, hp.cell h5⟩⟩
theorem RdF.of {w : World} {s : SV} {l : List Fld} (h : zXI w s l) : RdF w s l := ⟨h.len, by have := h.lim; have := h.len; omega, fun i v hv => by
 obtain ⟨a, h1, _, _, _, _, h2, h3, h4, h5⟩ := zZp h hv
 exact ⟨a, h1, h2, h3, h4, h5⟩⟩
theorem yVW {α : Type} {a b : List α} {k : Nat} {x y : α} (hx : a[k]? = some x) (hy : b[k]? = some y) (h : x ≠ y) : a ≠ b := fun e => by
 subst e; rw [hx] at hy; cases hy; exact h rfl
theorem zY0 {w : World} {s t : SV} {a b : List Fld} (ha : RdF w s a) (hb : RdF w t b) : Calls prog 59 #[.slice s.a s.len s.cap, .slice t.a t.len t.cap] w fun e w' => e = .returned (.bool (decide (a = b))) /\ Pu w w' := by
 refine yWJ _ _ w _ ?_
 have hla := ha.len
 have hlb := hb.len
 have hlim := ha.lim
 refine Br.of (fun d => ⟨by rw [decide_eq_false (fun e => zQC d (by rw [hla, hlb, e]))], Pu.refl _⟩) (fun d => ?_)
 have hab : a.length = b.length := by have := zQw d; omega
 refine zQz a.length (fun k t w' => t = (k : Int) /\ a.take k = b.take k /\ Pu w w') ⟨rfl, by simp, Pu.refl _⟩ ?_
 rintro k J t w2 hk ⟨ht, he, hp⟩ hJ
 obtain rfl : t = (k : Int) := ht
 refine Br.of (fun d1 => zQf fun w3 hp3 _ => ?_) (fun d1 => ?_)
 ·have hk2 : k < a.length := by have := zQn d1; omega
  obtain ⟨x, hx⟩ := zXg hk2
  obtain ⟨y, hy⟩ := zXg (show k < b.length by omega)
  obtain ⟨p, hpa, c0, c1, c2, c3⟩ := ((ha.pu hp).pu hp3).get k x hx
  obtain ⟨q, hqa, e0, e1, e2, e3⟩ := ((hb.pu hp).pu hp3).get k y hy
  refine ⟨p, hpa, by omega, by omega, _, c0, _, c1, _, c2, _, c3, q, hqa, by omega, by omega, _, e0, _, e1, _, e2, _, e3, _, fun w => neFld _ _ x y w, Br.of (fun d2 => ⟨?_, hp.trans hp3⟩) (fun d2 => ?_)⟩
  ·rw [decide_eq_false (yVW hx hy (by simpa using d2))]
  ·rw [zQc (by omega) (by omega)]
   exact hJ _ _ hk2 ⟨by omega, zK0 he hx hy (by simpa using d2), hp.trans hp3⟩
 ·have hk2 : k = a.length := by have := zQg d1; omega
  subst hk2
  rw [List.take_length, hab, List.take_length] at he
  exact ⟨by rw [decide_eq_true he], hp⟩
theorem rec_eq {x y : Rec} : (x = y) ↔ (x.gone = y.gone /\ x.v = y.v) := by
 obtain ⟨a, b⟩ := x; obtain ⟨c, d⟩ := y; simp
end Go.Proofs.YtcihcbfcgjepfaaGreatDoor
/- Desks: which changes clash. No condition but those stated. -/
namespace Go.Proofs.YtcihcbfcgjepfaaGreatDoor
open Go.Sh Go.RowKit Tryz
variable {w w' : World} {d d' : zQr} {val : Nat -> List Val} {mu : Int}
theorem yQK (a b c : Bool) (w : World) : Calls prog 199 #[.bool a, .bool b, .bool c] w fun e w' => e = .returned (.bool (zYz a b c)) /\ w' = w := by
 refine yXU _ _ _ w _ ?_
 cases a <;> cases b <;> cases c <;> exact ⟨rfl, rfl⟩
theorem yJa (a b c : Val) (w : World) : Calls prog 200 #[zZc a, zZc b, zZc c] w fun e w' => e = .returned (.bool (zZ8 a b c)) /\ Pu w w' := by
 refine yZd _ _ _ _ _ _ _ _ _ w _ (alB fun w1 hp1 hb1 => alB fun w2 hp2 hb2 => alB fun w3 hp3 hb3 => ?_)
 have q1 := hp3.blk (hp2.blk hb1)
 have q2 := hp3.blk hb2
 have hp := (hp1.trans hp2).trans hp3
 refine ⟨_, cl q1 0, _, cl q1 1, _, cl q1 2, _, cl q2 0, _, cl q2 1, _, cl q2 2, _, w3, yYe _ _ a b w3, Br.of (fun d1 => ?_) (fun d1 => ?_)⟩
 ·refine ⟨_, cl hb3 0, _, cl hb3 1, _, cl hb3 2, _, cl q1 0, _, cl q1 1, _, cl q1 2, _, w3, yYe _ _ c a w3, Br.of (fun d2 => ?_) (fun d2 => ?_)⟩
  ·exact ⟨_, cl hb3 0, _, cl hb3 1, _, cl hb3 2, _, cl q2 0, _, cl q2 1, _, cl q2 2, _, w3, yYe _ _ c b w3, by rw [zZ8, d1, d2]; rfl, hp⟩
  ·exact ⟨by rw [zZ8, d1, d2]; rfl, hp⟩
 ·exact ⟨by rw [zZ8, d1]; rfl, hp⟩
theorem yWx {g1 g2 g3 : Bool} {s1 s2 s3 : SV} {a b c : List Val} (ha : RdV w s1 a) (hb : RdV w s2 b) (hc : RdV w s3 c) (e1 : a.length = b.length) (e2 : c.length = b.length) :
  Calls prog 162 #[.agg #[.bool g1, .slice s1.a s1.len s1.cap, .bool g2, .slice s2.a s2.len s2.cap], .agg #[.bool g3, .slice s3.a s3.len s3.cap]] w fun e w' => e = .returned (.bool (zKD (⟨g1, a⟩, ⟨g2, b⟩) ⟨g3, c⟩)) /\ Pu w w' := by
 refine yZK _ _ _ _ _ _ w _ (alB fun w1 hp1 hb1 => alB fun w2 hp2 hb2 => ?_)
 have q1 := hp2.blk hb1
 have hp := hp1.trans hp2
 refine ⟨_, cl0 q1, _, cl q1 2, _, cl0 hb2, (yQK g1 g2 g3 w2).mono ?_⟩
 rintro e w3 ⟨rfl, rfl⟩
 refine ⟨_, rfl, Br.of (fun d0 => ?_) (fun d0 => ?_)⟩
 ·rw [zJf] at d0; cases d0
 refine ⟨s2, by rw [zQe, zQe, zQo q1]; rfl, ?_⟩
 have hla := ha.len
 have hlb := hb.len
 have hlc := hc.len
 have hlim := hb.lim
 have eR : zKD (⟨g1, a⟩, ⟨g2, b⟩) ⟨g3, c⟩ = zXL a b c := by show (zYz g1 g2 g3 || zXL a b c) = _; rw [zJf, Bool.false_or]
 rw [eR]
 refine zQz b.length (fun k t w' => t = (k : Int) /\ zXL a b c = zXL (a.drop k) (b.drop k) (c.drop k) /\ Pu w3 w') ⟨rfl, by simp, Pu.refl _⟩ ?_
 rintro k J t w4 hk ⟨ht, he, hp4⟩ hJ
 obtain rfl : t = (k : Int) := ht
 refine Br.of (fun d1 => ?_) (fun d1 => ?_)
 ·have hk2 : k < b.length := by have := zQn d1; omega
  obtain ⟨x, hx⟩ := zXg hk2
  obtain ⟨y, hy⟩ := zXg (show k < a.length by omega)
  obtain ⟨z, hz⟩ := zXg (show k < c.length by omega)
  obtain ⟨p, hpa, c0, c1, c2⟩ := ((hb.pu hp).pu hp4).get k x hx
  refine ⟨p, hpa, by omega, by omega, _, c0, _, c1, _, c2, alB fun w5 hp5 hb5 => zQl hb5 zKR.symm rfl rfl fun w6 hb6 hf6 _ => zQf fun w7 hp7 _ => ?_⟩
  have hp46 : Pu w4 w6 := hp5.andNew hf6 fun i hi => by rw [show i = w4.heap.size from hi]; exact Nat.le_refl _
  have hp47 := hp46.trans hp7
  have hp27 := hp4.trans hp47
  have hb7 := hp7.blk hb6
  obtain ⟨q, hqa, f0, f1, f2⟩ := ((ha.pu hp).pu hp27).get k y hy
  obtain ⟨r, hra, i0, i1, i2⟩ := ((hc.pu hp).pu hp27).get k z hz
  refine ⟨s1, cl (hp27.blk q1) 1, q, hqa, by omega, by omega, _, f0, _, f1, _, f2, _, cl hb7 0, _, cl hb7 1, _, cl hb7 2, s3, cl (hp27.blk hb2) 1, r, hra, by omega, by omega, _, i0, _, i1, _, i2, (yJa y x z w7).mono ?_⟩
  rintro e w8 ⟨rfl, hp8⟩
  have ed : zXL a b c = (zZ8 y x z || zXL (a.drop (k + 1)) (b.drop (k + 1)) (c.drop (k + 1))) := by rw [he, zZS hx, zZS hy, zZS hz]; rfl
  refine ⟨_, rfl, Br.of (fun d2 => ?_) (fun d2 => ?_)⟩
  ·exact ⟨by rw [ed, d2]; rfl, (hp.trans hp27).trans hp8⟩
  ·rw [zQc (by omega) (by omega)]
   exact hJ _ _ hk2 ⟨by omega, by rw [ed, d2, Bool.false_or], hp27.trans hp8⟩
 ·have hk2 : k = b.length := by have := zQg d1; omega
  refine ⟨?_, hp.trans hp4⟩
  rw [he, List.drop_eq_nil_of_le (show b.length <= k by omega)]
  have : zXL (a.drop k) [] (c.drop k) = false := by cases a.drop k <;> rfl
  rw [this]
theorem zYj {σ : Dsk} (h : Inv σ) {u : Nat} (hu : u < 4) : xZa ((σ.us u).ch.map Prod.fst) = (keysU σ u).map fun (i : Nat) => (i : Int) + 1 := by
 have tr : ∀ a b c : Int, decide (a <= b) = true -> decide (b <= c) = true -> decide (a <= c) = true := fun a b c h k => by simp at h k ⊢; omega
 have tot : ∀ a b : Int, (decide (a <= b) || decide (b <= a)) = true := fun a b => by simp; omega
 have pw : ((keysU σ u).map fun (i : Nat) => (i : Int) + 1).Pairwise fun a b => decide (a <= b) = true := by
  refine List.pairwise_map.2 (List.Pairwise.imp (R := fun a b => a < b) (fun {a b} hab => by simp; omega) ?_)
  exact (List.pairwise_lt_range).filter _
 have nd2 : ((keysU σ u).map fun (i : Nat) => (i : Int) + 1).Nodup := by
  refine List.pairwise_map.2 (List.Pairwise.imp (R := fun a b => a < b) (fun {a b} hab => by omega) ?_)
  exact (List.pairwise_lt_range).filter _
 refine List.Perm.eq_of_pairwise (le := fun a b => decide (a <= b) = true) (fun a b _ _ h k => by simp at h k; omega) (List.pairwise_mergeSort tr tot _) pw ((List.mergeSort_perm _ _).trans ?_)
 refine (List.perm_ext_iff_of_nodup (h.cn u hu) nd2).2 fun k => ?_
 constructor
 ·intro hk
  obtain ⟨c, hc, rfl⟩ := List.mem_map.1 hk
  have hr := (h.gc u hu c hc).2
  refine List.mem_map.2 ⟨(c.1 - 1).toNat, List.mem_filter.2 ⟨List.mem_range.2 (by omega), ?_⟩, by omega⟩
  rw [show (((c.1 - 1).toNat : Nat) : Int) + 1 = c.1 by omega, AL.get_of_mem (h.cn u hu) (v := c.2) hc]; rfl
 ·intro hk
  obtain ⟨i, hi, rfl⟩ := List.mem_map.1 hk
  obtain ⟨_, h2⟩ := List.mem_filter.1 hi
  obtain ⟨c, hc⟩ := Option.isSome_iff_exists.1 h2
  exact List.mem_map.2 ⟨_, AL.get_mem hc, rfl⟩
theorem yVi {b : Nat} {l : List Chg} (h : zQ8 w zXu chV b l) (k : Int) : (Instr.lookup 88 (.map (some b)) (.int .i64 k) false).run prog w = .ok (chV (chG l k)) w := by
 have := h.look (P := prog) (t := 88) (kt := 3) (e := 133) zV8 xXV (z := .agg #[.bool false, .slice none 0 0, .bool false, .slice none 0 0]) (Tryz.zeroValue133 w) k false
 rw [show (.int .i64 k : Value) = zXu k from rfl, this]
 unfold chG
 cases AL.get l k <;> rfl
def zXM (σ : Dsk) (u : Nat) (k : Int) : Bool := match AL.get (σ.us u).ch k with
 | some c => zKD c (recK σ k)
 | none => false
theorem zVQ (σ : Dsk) (u : Nat) : (clashK σ u).map (fun (i : Nat) => (i : Int) + 1) = ((keysU σ u).map fun (i : Nat) => (i : Int) + 1).filter (zXM σ u) := by
 rw [List.filter_map, keysU, List.filter_filter, clashK]
 congr 1
 refine List.filter_congr fun i _ => ?_
 show _ = (zXM σ u ((i : Int) + 1) && _)
 unfold zXM
 cases AL.get (σ.us u).ch ((i : Int) + 1) <;> simp
theorem zV0 (h : zQh w d 1 val) (hI : Inv (zQa d val)) {u : Nat} (hu : u < 4) :
  Calls prog 114 #[d.ptr, .pointer (some (uA d u))] w fun e w' => ∃ q : SV, e = .returned (.slice q.a q.len q.cap) /\ zXD w w' q ((clashK (zQa d val) u).map fun (i : Nat) => (i : Int) + 1) /\ Pu w w' := by
 refine yZS _ _ w _ ⟨some (d.C u), h.uCh hu, ?_⟩
 refine zVj _ w _ (zX7 fun w1 hw1 => ?_)
 refine ⟨_, rfl, ?_⟩
 have hl3 := hI.chl hu
 have hr3 := hI.rh
 have hrl := h.rs_len
 have hkeys := zJ6 w (d.C u) (d.ch u) (h.mp hu) (by omega)
 rw [← hw1] at hkeys
 refine hkeys.mono ?_
 rintro e w2 ⟨q, rfl, hq, hfresh, hp2⟩
 have eK : xZa ((d.ch u).map Prod.fst) = (keysU (zQa d val) u).map fun (i : Nat) => (i : Int) + 1 := by
  rw [← zYj hI hu]
  congr 1
  show _ = ((d.ch u).map (toC val)).map Prod.fst
  rw [List.map_map]; rfl
 rw [eK] at hq
 rw [zVQ]
 have hmem : ∀ k ∈ (keysU (zQa d val) u).map (fun (i : Nat) => (i : Int) + 1), ∃ c, AL.get (d.ch u) k = some c := fun k hk => by
  obtain ⟨i, hi, rfl⟩ := List.mem_map.1 hk
  obtain ⟨_, h2⟩ := List.mem_filter.1 hi
  have h2 : (AL.get ((d.ch u).map (toC val)) ((i : Int) + 1)).isSome = true := h2
  rw [zZk] at h2
  cases hg : AL.get (d.ch u) ((i : Int) + 1) with
  | none => rw [hg] at h2; cases h2
  | some c => exact ⟨c, rfl⟩
 have hks3 : ((keysU (zQa d val) u).map fun (i : Nat) => (i : Int) + 1).length <= 300 := by
  have h1 := List.length_filter_le (fun i : Nat => (AL.get ((zQa d val).us u).ch ((i : Int) + 1)).isSome) (List.range (zQa d val).recs.length)
  have h2 := hI.r300
  rw [List.length_range] at h1
  rw [List.length_map, keysU]; omega
 generalize (keysU (zQa d val) u).map (fun (i : Nat) => (i : Int) + 1) = ks at hq hmem hks3
 have hql : q.len = ks.length := by have := hq.1; simp at this; omega
 have hqc := hq.le_cap
 have hm : maxLen = 9223372036854775807 := by unfold maxLen; omega
 refine ⟨q, rfl, ?_⟩
 have hP2 : Pu w w2 := hp2
 have zq := hq.lt
 refine zQz ks.length (fun k t w' => t.2 = (k : Int) /\ zXD w2 w' t.1 ((ks.take k).filter (zXM (zQa d val) u)) /\ Pu w w' /\ Pu w2 w' /\ zQj w' 3 1 q (ks.map zXu)) ⟨rfl, zXD.nil _ _, hP2, Pu.refl _, hq⟩ ?_
 rintro k J ⟨t, n⟩ w3 hk ⟨hn, hN, hp3, hp23, hq3⟩ hJ
 obtain rfl : n = (k : Int) := hn
 dsimp only at hN
 refine Br.of (fun d1 => ?_) (fun d1 => ?_)
 ·have hk2 : k < ks.length := by have := zQn d1; omega
  obtain ⟨x, hx⟩ := zXg hk2
  obtain ⟨a, ha, hc, hab⟩ := hq3.cell (j := k) (v := zXu x) (by simp [hx])
  refine ⟨a, ha, by omega, by omega, x, by rw [zQL, Nat.mul_one]; exact hc, zQf fun w4 hp4 _ => ?_⟩
  have h4 := (h.pu hp3).pu hp4
  obtain ⟨c, hcx⟩ := hmem x (List.mem_of_getElem? hx)
  have eG : chG (d.ch u) x = c := by rw [chG, hcx]; rfl
  have mc := zJc hu (AL.get_mem hcx)
  have hxr := (hI.gc u hu (toC val (x, c)) (List.mem_map.2 ⟨_, AL.get_mem hcx, rfl⟩)).2
  have hxr : 1 <= x /\ x <= d.rh.length := by simpa [toC, zQa] using hxr
  have hlt : (x - 1).toNat < d.rh.length := by omega
  obtain ⟨y, hy⟩ := zXg hlt
  obtain ⟨b, eb, _, g0⟩ := h4.bd.rw_.elem zQk hy (o := 0) (v := .bool y.g) rfl
  obtain ⟨b', eb', _, g1⟩ := h4.bd.rw_.elem zQk hy (o := 1) (v := .slice y.s.a y.s.len y.s.cap) rfl
  rw [eb] at eb'; cases eb'
  have r1 := h4.read hI (x := c.1) mc.1
  have r2 := h4.read hI (x := c.2) mc.2
  have r3 := h4.read hI (zQK (List.mem_of_getElem? hy))
  refine ⟨some (d.C u), h4.uCh hu, _, c.1.s, _, c.2.s, by rw [← eG]; exact yVi (h4.mp hu) x, d.rs, h4.recs, b, eb, ?_⟩
  rw [zQc (n := x - 1) (by omega) (by omega)]
  refine ⟨by omega, by omega, y.g, g0, y.s, g1, ?_⟩
  rw [eG]
  refine (yWx r1.1 r2.1 r3.1 (r1.2.trans r2.2.symm) (r3.2.trans r2.2.symm)).mono ?_
  rintro e w7 ⟨rfl, hp7⟩
  have eP : zKD (⟨c.1.g, hv val c.1⟩, ⟨c.2.g, hv val c.2⟩) ⟨y.g, hv val y⟩ = zXM (zQa d val) u x := by
   unfold zXM
   have e1 : AL.get ((zQa d val).us u).ch x = some (toR val c.1, toR val c.2) := by
    show AL.get ((d.ch u).map (toC val)) x = _
    rw [zZk, hcx]; rfl
   have e2 : recK (zQa d val) x = toR val y := by
    unfold recK
    show (d.rh.map (toR val)).getD _ _ = _
    rw [List.getD_eq_getElem?_getD, List.getElem?_map, hy]; rfl
   rw [e1, e2]; rfl
  have hp37 := hp4.trans hp7
  have hp07 := hp3.trans hp37
  have hp27 := hp23.trans hp37
  have hN7 := hN.pu hp37
  have hq7 := hq3.pu hp37
  rw [eP]
  refine ⟨_, rfl, Br.of (fun d2 => alB fun w8 hp8 hb8 => ?_) (fun d2 => ?_)⟩
  ·have hks2 : ((ks.take k).filter (zXM (zQa d val) u)).length <= 1000000 := by
    have h1 := List.length_filter_le (zXM (zQa d val) u) (ks.take k)
    have h3 := List.length_take_le k ks
    omega
   obtain ⟨t', w9, hra, hN9, hf9⟩ := (hN7.pu hp8).push (hp27.trans hp8).size hb8 hks2
   refine ⟨t', w9, hra, ?_⟩
   rw [zQc (by omega) (by omega)]
   have hp89 := (hp07.trans hp8).andNew hf9 fun i hi => by have := hN.2 i hi; have := hP2.size; omega
   have hp289 := (hp27.trans hp8).andNew hf9 fun i hi => hN.2 i hi
   refine hJ _ _ hk2 ⟨by simp, ?_, hp89, hp289, (hq7.pu hp8).fr hf9 fun b hb hb2 => ?_⟩
   ·rw [zQO hx, List.filter_append]
    simpa [d2] using hN9
   ·have h1 := hN.2 b hb2
    have h2 := zq b hb
    omega
  ·rw [zQc (by omega) (by omega)]
   refine hJ _ _ hk2 ⟨by simp, ?_, hp07, hp27, hq7⟩
   rw [zQO hx, List.filter_append]
   simpa [d2] using hN7
 ·have hk2 : k = ks.length := by have := zQg d1; omega
  subst hk2
  rw [List.take_length] at hN
  exact ⟨t, rfl, hN.low hP2.size, hp3⟩
end Go.Proofs.YtcihcbfcgjepfaaGreatDoor
/- Desks: Changed, Clashes, Table. No condition but those stated. -/
namespace Go.Proofs.YtcihcbfcgjepfaaGreatDoor
open Go.Sh Go.RowKit Tryz
variable {w w' : World} {d d' : zQr} {val : Nat -> List Val} {mu : Int}
theorem zXD.fr {w0 : World} {B : Nat -> Prop} {s : SV} {l : List Int} (h : zXD w0 w s l) (hf : Fr B w w') (hn : ∀ b ∈ zQb s, ¬ B b) : zXD w0 w' s l := ⟨h.1.fr hf hn, h.2⟩
theorem zXD.notS {w0 : World} {s : SV} {l : List Int} (h : zXD w0 w s l) (hd : zQG w0 d val) : ∀ b ∈ zQb s, ¬ b = d.S := fun b hb e => by
 have h1 := h.2 b hb
 have h2 := hd.out h1
 rw [e, hd.oS] at h2; cases h2
theorem yJI (h : zQh w d 0 val) (hI : Inv (zQa d val)) (u : Int) :
  Calls prog 78 #[d.ptr, .int .i64 u] w fun e w' => ∃ q : SV, e = .returned (.tuple #[.slice q.a q.len q.cap, .int .i64 (uC u)]) /\ zXD w w' q (clashesL u (zQa d val)) /\ zQ4 w w' d d 0 val := by
 refine yJg _ u w _ ((zQM h (Pu.refl w) u).mono ?_)
 rintro e w2 ⟨rfl, h2, hf2, hs2⟩
 refine ⟨_, _, _, rfl, Br.of (fun c => ?_) (fun c => ?_)⟩
 ·have hu := zJW c
  exact h2.left fun w' hL _ _ => ⟨⟨none, 0, 0⟩, rfl, by rw [clashesL, if_neg hu]; exact zXD.nil _ _, hL⟩
 have hu := zJM c
 obtain ⟨n, rfl, hn⟩ := zQS hu
 rw [zKL hn]
 refine (zV0 h2.at_ hI hn).mono ?_
 rintro e w3 ⟨q, rfl, hq, hp3⟩
 have hq0 : zXD w w3 q _ := hq.low (by omega)
 refine ⟨q, rfl, (h2.pu hp3).left fun w' hL hf _ => ⟨q, by rw [show uC (n : Int) = 0 by rw [uC, if_pos hu]], ?_, hL⟩⟩
 rw [clashesL, if_pos hu, zQL]
 exact hq0.fr hf (hq0.notS h.bd)
theorem yKI (h : zQh w d 0 val) (hI : Inv (zQa d val)) (u : Int) :
  Calls prog 76 #[d.ptr, .int .i64 u] w fun e w' => ∃ q : SV, e = .returned (.tuple #[.slice q.a q.len q.cap, .int .i64 (uC u)]) /\ zXD w w' q (changedL u (zQa d val)) /\ zQ4 w w' d d 0 val := by
 refine yWr _ u w _ ((zQM h (Pu.refl w) u).mono ?_)
 rintro e w2 ⟨rfl, h2, hf2, hs2⟩
 refine ⟨_, _, _, rfl, Br.of (fun c => ?_) (fun c => ?_)⟩
 ·have hu := zJW c
  exact h2.left fun w' hL _ _ => ⟨⟨none, 0, 0⟩, rfl, by rw [changedL, if_neg hu]; exact zXD.nil _ _, hL⟩
 have hu := zJM c
 obtain ⟨n, rfl, hn⟩ := zQS hu
 rw [zKL hn]
 have hl3 := hI.chl hn
 have ha3 := hI.ah hn
 have hal := h.as_len hn
 refine ⟨some (d.C n), h2.at_.uCh hn, ?_⟩
 refine zVj _ w2 _ (zX7 fun w3 hw3 => ?_)
 have hkeys := zJ6 w2 (d.C n) (d.ch n) (h2.at_.mp hn) (by omega)
 rw [← hw3] at hkeys
 refine ⟨_, rfl, hkeys.mono ?_⟩
 rintro e w4 ⟨q, rfl, hq, hfresh, hp4⟩
 have eK : xZa ((d.ch n).map Prod.fst) = (keysU (zQa d val) n).map fun (i : Nat) => (i : Int) + 1 := by
  rw [← zYj hI hn]
  congr 1
  show _ = ((d.ch n).map (toC val)).map Prod.fst
  rw [List.map_map]; rfl
 have hks3 : ((keysU (zQa d val) n).map fun (i : Nat) => (i : Int) + 1).length <= 300 := by
  have h1 := List.length_filter_le (fun i : Nat => (AL.get ((zQa d val).us n).ch ((i : Int) + 1)).isSome) (List.range (zQa d val).recs.length)
  have h2 := hI.r300
  rw [List.length_range] at h1
  rw [List.length_map, keysU]; omega
 rw [eK] at hq
 have hN0 : zXD w w4 q _ := ⟨hq, fun b hb => by have := hfresh b hb; omega⟩
 refine ⟨q, rfl, d.asv n, (h2.pu hp4).at_.uAp hn, ?_⟩
 have eL : changedL (n : Int) (zQa d val) = (keysU (zQa d val) n).map (fun (i : Nat) => (i : Int) + 1) ++ (List.range (d.ah n).length).map (fun (i : Nat) => -(i : Int) - 1) := by
  rw [changedL, if_pos hu, zQL, zX0]
 rw [eL]
 refine zQz (d.ah n).length (fun k t w' => t.2 = (k : Int) /\ zXD w w' t.1 ((keysU (zQa d val) n).map (fun (i : Nat) => (i : Int) + 1) ++ (List.range k).map (fun (i : Nat) => -(i : Int) - 1)) /\ zYW w w' d val) ⟨rfl, by simpa using hN0, h2.pu hp4⟩ ?_
 rintro k J ⟨t, m⟩ w5 hk ⟨hm, hN, h5⟩ hJ
 obtain rfl : m = (k : Int) := hm
 dsimp only at hN
 refine Br.of (fun d1 => alB fun w6 hp6 hb6 => ?_) (fun d1 => ?_)
 ·have hk2 : k < (d.ah n).length := by have := zQn d1; omega
  rw [zQc (n := 0 - (k : Int)) (by omega) (by omega), zQc (n := 0 - (k : Int) - 1) (by omega) (by omega)] at hb6
  have zz : w.heap.size <= w6.heap.size := by have := h5.fr.size; have := hp6.size; omega
  obtain ⟨t', w7, hra, hN7, hf7⟩ := (hN.pu hp6).push zz hb6 (by simp; simp at hks3; omega)
  refine ⟨t', w7, hra, ?_⟩
  rw [zQc (by omega) (by omega)]
  have h6 := h5.pu hp6
  have hnot : ∀ b ∈ zQb t, d.o b = none := fun b hb => h.bd.out (hN.2 b hb)
  refine hJ _ _ hk2 ⟨by simp, ?_, ⟨h6.at_.fr hf7 fun b hb hb2 => hb (hnot b hb2), h6.fr.trans hf7 fun i hi hlt => by have := hN.2 i hi; omega⟩⟩
  rw [List.range_succ, List.map_append, ← List.append_assoc]
  have e : (0 - (k : Int) - 1) = -(k : Int) - 1 := by omega
  rw [e] at hN7
  exact hN7
 ·have hk2 : k = (d.ah n).length := by have := zQg d1; omega
  subst hk2
  exact h5.left fun w' hL hf _ => ⟨t, by rw [show uC (n : Int) = 0 by rw [uC, if_pos hu]], hN.fr hf (hN.notS h.bd), hL⟩
structure RdT (w : World) (t : Tbl) (f r : SV) : Prop where
 fl : RdF w f t.fields
 rc : zZs w r t.recs
theorem RdT.pu {t : Tbl} {f r : SV} (h : RdT w t f r) (hp : Pu w w') : RdT w' t f r := ⟨h.fl.pu hp, h.rc.pu hp⟩
theorem yJ4 {s : SV} {l : List Fld} (h : zQj w 38 4 s (l.flatMap zKS)) (hn : l.length <= 1000000) : RdF w s l := by
 refine ⟨h.len zZt (by decide), by omega, fun i f hf => ?_⟩
 obtain ⟨a, ha, _, h0⟩ := h.elem zZt hf (o := 0) rfl
 obtain ⟨a1, ha1, _, h1⟩ := h.elem zZt hf (o := 1) rfl
 obtain ⟨a2, ha2, _, h2⟩ := h.elem zZt hf (o := 2) rfl
 obtain ⟨a3, ha3, _, h3⟩ := h.elem zZt hf (o := 3) rfl
 rw [ha] at ha1 ha2 ha3; cases ha1; cases ha2; cases ha3
 exact ⟨a, ha, h0, h1, h2, h3⟩
theorem zXp.at_ : ∀ {hs : List zQy} {rs : List Rec} {i : Nat} {r : Rec}, zXp w hs rs -> rs[i]? = some r -> ∃ x, hs[i]? = some x /\ x.g = r.gone /\ zQj w 28 3 x.s (r.v.flatMap zXH)
 | [], [], i, r, _, hr => by simp at hr
 | x :: hs, y :: rs, 0, r, ⟨h1, _⟩, hr => by simp at hr; subst hr; exact ⟨x, rfl, h1⟩
 | x :: hs, y :: rs, i + 1, r, ⟨_, h2⟩, hr => by
  obtain ⟨z, hz, h3⟩ := zXp.at_ h2 (by simpa using hr)
  exact ⟨z, by simpa using hz, h3⟩
theorem yJV {q : SV} {hs : List zQy} {rs : List Rec} (hrow : zQj w 77 2 q (hs.flatMap zJF)) (hr : zXp w hs rs) (hv : ∀ r ∈ rs, r.v.length <= 1000000) : zZs w q rs := by
 refine ⟨(hrow.len zQk (by decide)).trans hr.len, fun i r hi => ?_⟩
 obtain ⟨x, hx, hg, hrx⟩ := hr.at_ hi
 obtain ⟨a, ha, _, h0⟩ := hrow.elem zQk hx (o := 0) rfl
 obtain ⟨a1, ha1, _, h1⟩ := hrow.elem zQk hx (o := 1) rfl
 rw [ha] at ha1; cases ha1
 exact ⟨a, x.s, ha, by rw [← hg]; exact h0, h1, zZO.rd (w0 := { w with heap := #[] }) ⟨hrx, fun _ _ => Nat.zero_le _⟩ (by have := hv r (List.mem_of_getElem? hi); omega)⟩
theorem zQh.rdR (h : zQh w d mu val) (hI : Inv (zQa d val)) : zZs w d.rs (zQa d val).recs := by
 refine ⟨by rw [h.rs_len]; simp [zQa], fun i r hr => ?_⟩
 have hr : (d.rh.map (toR val))[i]? = some r := hr
 rw [List.getElem?_map] at hr
 obtain ⟨x, hx, rfl⟩ := Option.map_eq_some_iff.1 hr
 obtain ⟨a, ha, _, h0⟩ := h.bd.rw_.elem zQk hx (o := 0) rfl
 obtain ⟨a1, ha1, _, h1⟩ := h.bd.rw_.elem zQk hx (o := 1) rfl
 rw [ha] at ha1; cases ha1
 exact ⟨a, x.s, ha, h0, h1, (h.read hI (zQK (List.mem_of_getElem? hx))).1⟩
theorem bs25 : zXr prog 25 = 3 := by kernel_rfl
theorem yVG (h : zQh w d 0 val) (hI : Inv (zQa d val)) :
  Calls prog 24 #[d.ptr] w fun e w' => ∃ (f r : SV) (hs : List zQy), e = .returned (zYv (zQa d val).tbl f r) /\ zQj w' 38 4 f (d.flds.flatMap zKS) /\ (∀ b ∈ zQb f, w.heap.size <= b) /\ zX3 w w' r hs (zQa d val).recs /\ zQ4 w w' d d 0 val /\ Fr (· = d.S) w w' := by
 refine yVa _ w _ (alB fun w1 hp1 hb1 => (zQM h hp1 0).mono ?_)
 rintro e w2 ⟨rfl, h2, hf2, hs2⟩
 have z1 := hp1.size
 have lr : w.heap.size < w1.heap.size := zQA hb1
 have ho : d.o w.heap.size = none := h.bd.out (Nat.le_refl _)
 have nS : ¬ w.heap.size = d.S := fun e => by rw [e, h.bd.oS] at ho; cases ho
 have hb2 := hf2.blk hb1 nS
 have hr3 := hI.r300
 have hf16 : d.flds.length <= 16 := hI.f16
 refine ⟨_, _, _, rfl, ?_⟩
 refine ⟨d.page, by rw [yQM]; exact h2.at_.page, d.fs, h2.at_.flds, d.rs, h2.at_.recs, alB fun w6 hp6 hb6 => zQl hb6 bs25.symm rfl rfl fun w7 hb7 hf7 _ => zQf fun w8 hp8 _ => ?_⟩
 have hp27 : Pu w2 w7 := hp6.andNew hf7 fun i hi => by rw [show i = w2.heap.size from hi]; exact Nat.le_refl _
 have hp28 := hp27.trans hp8
 have hb8 := hp8.blk hb7
 have h8 := h2.pu hp28
 refine ⟨fun y => Pu w8 y, Pu.refl _, d.fs, fun y hy => cl (hy.blk hb8) 1, d.rs, fun y hy => cl (hy.blk hb8) 2, (yXz (h8.at_.fld hI.vf) (by omega)).mono ?_⟩
 rintro e w9 ⟨qf, rfl, hqf, hqn, hp9⟩
 have h9 := h8.pu hp9
 refine ⟨qf, rfl, hp9, (zWw (h9.at_.rdR hI) (by omega) fun r hr => by have h1 := zQ7 (hI.gr r hr); have e : (zQa d val).flds.length = d.flds.length := rfl; omega).mono ?_⟩
 rintro e w10 ⟨qr, hs, rfl, hN, hp10⟩
 have hb10 := hp10.blk (hp9.blk hb8)
 have z2 := h2.fr.size
 have zp : w2.heap.size <= w8.heap.size := hp28.size
 have z6 : w2.heap.size < w6.heap.size := zQA hb6
 have z7 := hf7.size
 have z8 := hp8.size
 have z9 := hp9.size
 refine ⟨qr, rfl, ?_⟩
 rw [zQe]
 refine zQv hb10 (by show 0 + 1 < 3; omega) fun w11 hw11 hb11 => ?_
 rw [zQe]
 refine zQv hb11 (by show 0 + 2 < 3; omega) fun w12 hw12 hb12 => ?_
 have hf12 : Fr (· = w2.heap.size) w10 w12 := by
  refine (show Fr (· = w2.heap.size) w10 w11 by rw [hw11]; exact Fr.cell w10 _ _ _).trans (show Fr (· = w2.heap.size) w11 w12 by rw [hw12]; exact Fr.cell w11 _ _ _) fun i hi _ => hi
 have n7 : ∀ {b : Nat}, w8.heap.size <= b -> ¬ b = w2.heap.size := fun {b} hb e => by omega
 refine ⟨_, cl hb12 0, qf, cl hb12 1, qr, cl hb12 2, zQl (((hp28.trans hp9).trans hp10).andNew hf12 (fun i hi => by rw [show i = w2.heap.size from hi]; exact Nat.le_refl _) |>.blk hb2) bs25.symm rfl rfl fun w13 hb13 hf13 _ => ?_⟩
 have hp212 : Pu w2 w12 := ((hp28.trans hp9).trans hp10).andNew hf12 fun i hi => by rw [show i = w2.heap.size from hi]; exact Nat.le_refl _
 have h12 := h2.pu hp212
 have h13 : zYW w w13 d val := ⟨h12.at_.fr hf13 fun b hb e => hb (by rw [show b = w.heap.size from e]; exact ho), h12.fr.trans hf13 fun i hi hlt => by have hi : i = w.heap.size := hi; omega⟩
 have hvb : ∀ b ∈ vB hs, w9.heap.size <= b := fun b hb => (hN.vnew b hb).1
 refine h13.left fun w14 hL hf14 _ => ?_
 have hS14 : Fr (· = d.S) w w14 := ((((Fr.pu hp1 : Fr (· = d.S) w w1).trans hf2 fun i hi _ => hi).trans (Fr.pu hp212 : Fr (· = d.S) w2 w12) fun i hi _ => hi).trans hf13 fun i hi hlt => by have hi : i = w.heap.size := hi; omega).trans hf14 fun i hi _ => hi
 have hb14 := hf14.blk hb13 nS
 have nS2 : ∀ {b : Nat}, w8.heap.size <= b -> ¬ b = d.S := fun {b} hb e => by have := h8.at_.bd.out hb; rw [e, h.bd.oS] at this; cases this
 refine ⟨_, cl hb14 0, qf, cl hb14 1, qr, cl hb14 2, qf, qr, hs, rfl, ?_, fun b hb => ?_, ⟨?_, fun b hb => ?_, ?_, fun b hb => ⟨?_, (hN.vnew b hb).2⟩, hN.nd⟩, hL, hS14⟩
 ·exact (((hqf.pu hp10).fr hf12 fun b hb => n7 (hqn b hb)).fr hf13 fun b hb e => by have := hqn b hb; have e : b = w.heap.size := e; omega).fr hf14 fun b hb => nS2 (hqn b hb)
 ·have := hqn b hb; omega
 ·exact ((hN.row.fr hf12 fun b hb => n7 (by have := hN.new b hb; omega)).fr hf13 fun b hb e => by have := hN.new b hb; have e : b = w.heap.size := e; omega).fr hf14 fun b hb => nS2 (by have := hN.new b hb; omega)
 ·have := hN.new b hb; omega
 ·exact ((hN.recs.fr hf12 fun b hb => n7 (by have := hvb b hb; omega)).fr hf13 fun b hb e => by have := hvb b hb; have e : b = w.heap.size := e; omega).fr hf14 fun b hb => nS2 (by have := hvb b hb; omega)
 ·have := hvb b hb; omega
theorem xX4 (h : zQh w d 0 val) (hI : Inv (zQa d val)) :
  Calls prog 24 #[d.ptr] w fun e w' => ∃ f r : SV, e = .returned (zYv (zQa d val).tbl f r) /\ RdT w' (zQa d val).tbl f r /\ zQ4 w w' d d 0 val /\ Fr (· = d.S) w w' := by
 refine (yVG h hI).mono ?_
 rintro e w' ⟨f, r, hs, rfl, h1, -, h3, h4, h5⟩
 have hf16 : d.flds.length <= 16 := hI.f16
 exact ⟨f, r, rfl, ⟨yJ4 h1 (by show d.flds.length <= _; omega), yJV h3.row h3.recs fun r hr => by have h1 := zQ7 (hI.gr r hr); have e : (zQa d val).flds.length = d.flds.length := rfl; omega⟩, h4, h5⟩
end Go.Proofs.YtcihcbfcgjepfaaGreatDoor
/- Desks: a change written into a record. No condition but those stated. -/
namespace Go.Proofs.YtcihcbfcgjepfaaGreatDoor
open Go.Sh Go.RowKit Tryz
variable {w w' : World} {d d' : zQr} {val : Nat -> List Val} {mu : Int}
theorem mix0 (b l : List Val) : zZQ [] b l = l := by cases b <;> cases l <;> rfl
theorem yQ6 : ∀ {a b l : List Val} {k : Nat}, (zZQ (a.take k) (b.take k) l)[k]? = l[k]?
 | [], b, l, k => by cases l <;> simp [zZQ]
 | x :: a, [], l, k => by cases k <;> cases l <;> simp [zZQ]
 | x :: a, y :: b, [], k => by cases k <;> simp [zZQ]
 | x :: a, y :: b, z :: l, 0 => by simp [zZQ]
 | x :: a, y :: b, z :: l, k + 1 => by
  simp only [List.take_succ_cons, zZQ, List.getElem?_cons_succ]
  exact yQ6
theorem zJT : ∀ {a b l : List Val} {k : Nat} {x y z : Val}, a[k]? = some x -> b[k]? = some y -> l[k]? = some z -> zZQ (a.take (k + 1)) (b.take (k + 1)) l = (zZQ (a.take k) (b.take k) l).set k (if x = y then z else y)
 | [], b, l, k, x, y, z, h, _, _ => by simp at h
 | _ :: a, [], l, k, x, y, z, _, h, _ => by simp at h
 | _ :: a, _ :: b, [], k, x, y, z, _, _, h => by simp at h
 | p :: a, q :: b, r :: l, 0, x, y, z, h1, h2, h3 => by
  simp at h1 h2 h3; subst h1; subst h2; subst h3
  simp [zZQ]
 | p :: a, q :: b, r :: l, k + 1, x, y, z, h1, h2, h3 => by
  simp only [List.take_succ_cons, zZQ, List.set_cons_succ]
  rw [zJT (by simpa using h1) (by simpa using h2) (by simpa using h3)]
theorem zJU {α : Type} : ∀ {l : List α} {k : Nat} {x : α}, l[k]? = some x -> l.set k x = l
 | [], k, x, h => by simp at h
 | y :: l, 0, x, h => by simp at h; simp [h]
 | y :: l, k + 1, x, h => by rw [List.set_cons_succ, zJU (by simpa using h)]
theorem yWH {α : Type} (f : α -> α) (b : α) : ∀ (l : List α) (k : Nat), (l.set k b).modify k f = l.set k (f b)
 | [], k => by simp
 | y :: l, 0 => rfl
 | y :: l, k + 1 => by rw [List.set_cons_succ, List.modify_succ_cons, yWH, List.set_cons_succ]
theorem zKZ {u : Nat} {rh' : List zQy} : d.gen u d.o d.rs rh' (d.asv u) (d.ah u) (d.cs u) (d.ch u) (d.C u) = { d with rh := rh' } := by
 have e : ∀ {α : Type} (f : Nat -> α), (fun v => if v = u then f u else f v) = f := fun f => by funext v; by_cases e : v = u <;> simp [e]
 simp only [zQr.gen, e]
abbrev RV (d : zQr) : Nat -> Prop := fun b => d.o b = some .R ∨ d.o b = some .V
theorem setRh (h : zQh w d 1 val) {i : Nat} {x y : zQy} (hx : d.rh[i]? = some x) (hs : x.s = y.s) (hf : Fr (· ∈ zQb d.rs) w w') (hrow : zQj w' 77 2 d.rs ((d.rh.set i y).flatMap zJF)) : zQh w' { d with rh := d.rh.set i y } 1 val := by
 have own : ∀ b ∈ zQb d.rs, d.o b = some .R := h.bd.oR
 have hu : 0 < 4 := by decide
 have hm : x ∈ zXf d := zQK (List.mem_of_getElem? hx)
 have ne : ∀ {b : Nat} {κ : zX4}, d.o b = some κ -> κ ≠ .R -> ¬ b ∈ zQb d.rs := fun {b κ} hb hk e => by rw [own b e] at hb; exact hk (Option.some.inj hb).symm
 have hbd : zQG w' (d.gen 0 d.o d.rs (d.rh.set i y) (d.asv 0) (d.ah 0) (d.cs 0) (d.ch 0) (d.C 0)) val := by
  refine h.bd.gen hu hf (fun b κ hb _ hk _ _ => ⟨ne hb hk, hb⟩) h.bd.oS hrow own ((h.bd.aw 0 hu).fr hf fun b hb => ne (h.bd.oA 0 hu b hb) (by simp)) (h.bd.oA 0 hu) (fun e => ⟨(h.bd.mp e 0 hu).fr hf (ne (h.bd.oC e 0 hu) (by simp)), h.bd.oC e 0 hu⟩) (fun e => ⟨(h.bd.ml e 0 hu).fr hf fun b hb => ne (h.bd.oK e 0 hu b hb) (by simp), h.bd.oK e 0 hu⟩) (fun z hz => ?_) ?_ (fun b hb => Nat.lt_of_lt_of_le (h.bd.lt b hb) hf.size)
  ·left
   simp only [List.mem_append] at hz
   rcases hz with (hz | hz) | hz
   ·exact ⟨z, zZn hu (List.mem_append_left _ hz), rfl⟩
   ·exact ⟨z, zX8 hu hz, rfl⟩
   ·rcases List.mem_or_eq_of_mem_set hz with hz | rfl
    ·exact ⟨z, zQK hz, rfl⟩
    ·exact ⟨x, hm, hs.symm⟩
  ·have hnd := (yZo hu).1 h.bd.nd
   have e : zXa d 0 = d.rh ++ (zXa d 0).drop d.rh.length := by simp [zXa]
   rw [e] at hnd
   unfold zKM
   rw [zQt, zQt (d.rh.set _ _), zWk (y := y) hx hs, ← zQt, ← zQt]
   exact hnd
 rw [zKZ] at hbd
 exact ⟨hf.blk h.st (ne h.bd.oS (by simp)), hbd, h.sd⟩
theorem xZw (h : zQh w d 1 val) {c : zQy × zQy} (m1 : c.1 ∈ zXf d) (m2 : c.2 ∈ zXf d) {i : Nat} {x : zQy} (hx : d.rh[i]? = some x) (n1 : ∀ b ∈ zQb x.s, b ∉ zQb c.1.s) (n2 : ∀ b ∈ zQb x.s, b ∉ zQb c.2.s)
  (l1 : (hv val c.1).length = (hv val c.2).length) (l2 : (hv val x).length = (hv val c.2).length) (lb : (hv val c.2).length <= 1000000) (lp : 0 < (hv val c.2).length) {a : Addr} (ha : d.rs.a = some a) :
  Calls prog 115 #[chV c, .pointer (some (a.add (i * 2)))] w fun e w' => e = .returned (.tuple #[]) /\ ∃ (y : zQy) (val' : Nat -> List Val), y.s = x.s /\ zQh w' { d with rh := d.rh.set i y } 1 val' /\ Fr (RV d) w w' /\
   zQa { d with rh := d.rh.set i y } val' = { zQa d val with recs := (zQa d val).recs.modify i (zZM (toR val c.1, toR val c.2)) } := by
 have hm : x ∈ zXf d := zQK (List.mem_of_getElem? hx)
 have hi : i < d.rh.length := (List.getElem?_eq_some_iff.1 hx).1
 refine yXE _ _ _ _ _ w _ (alB fun w1 hp1 hb1 => ?_)
 have h1 := h.pu hp1
 refine ⟨_, cl0 hb1, _, cl hb1 2, ?_⟩
 have z1 : w.heap.size < w1.heap.size := zQA hb1
 have nR : d.o w.heap.size = none := h.bd.out (Nat.le_refl _)
 have eX : (zQa d val).recs[i]? = some (toR val x) := by show (d.rh.map (toR val))[i]? = _; rw [List.getElem?_map, hx]; rfl
 have q1 : zQj w 28 3 c.1.s ((hv val c.1).flatMap zXH) := h.bd.vr _ m1
 have q2 : zQj w 28 3 c.2.s ((hv val c.2).flatMap zXH) := h.bd.vr _ m2
 have o1 : ∀ b ∈ zQb c.1.s, d.o b = some .V := fun b hb => h.bd.oV b (zXk m1 hb)
 have o2 : ∀ b ∈ zQb c.2.s, d.o b = some .V := fun b hb => h.bd.oV b (zXk m2 hb)
 have ox : ∀ b ∈ zQb x.s, d.o b = some .V := fun b hb => h.bd.oV b (zXk hm hb)
 have oR := h.bd.oR
 obtain ⟨ab, hab⟩ := zXy (i := 0) (h.bd.vr x hm) (by omega)
 -- the values
 have vals : ∀ (w3 : World) (y : zQy), y.s = x.s -> y.g = (if c.1.g = c.2.g then x.g else c.2.g) -> zQh w3 { d with rh := d.rh.set i y } 1 val -> Fr (RV d) w w3 -> zQj w3 28 3 c.1.s ((hv val c.1).flatMap zXH) -> zQj w3 28 3 c.2.s ((hv val c.2).flatMap zXH) ->
   w3.heap[w.heap.size]? = some (.cells #[.bool c.1.g, .slice c.1.s.a c.1.s.len c.1.s.cap, .bool c.2.g, .slice c.2.s.a c.2.s.len c.2.s.cap] 133) ->
   zYP (fun e w' => e = .returned (.tuple #[]) /\ ∃ (y : zQy) (val' : Nat -> List Val), y.s = x.s /\ zQh w' { d with rh := d.rh.set i y } 1 val' /\ Fr (RV d) w w' /\
   zQa { d with rh := d.rh.set i y } val' = { zQa d val with recs := (zQa d val).recs.modify i (zZM (toR val c.1, toR val c.2)) }) (some (a.add (i * 2))) (some ⟨w.heap.size, 0, none⟩) c.2.s ((c.2.s.len : Nat) : Int) 0 [] w3 := fun w3 y hys hyg h3 hf3 k1 k2 hb3 => by
  have hy : (d.rh.set i y)[i]? = some y := by rw [List.getElem?_set_self hi]
  have hym : y ∈ zXf { d with rh := d.rh.set i y } := zQK (d := { d with rh := d.rh.set i y }) (List.mem_of_getElem? hy)
  have hvy : hv val y = hv val x := by rw [hv, hv, hys]
  have r0 : zQj w3 28 3 x.s ((hv val x).flatMap zXH) := by have := h3.bd.vr y hym; rwa [hvy, hys] at this
  have s1 := k1.len zQI (by decide)
  have s2 := k2.len zQI (by decide)
  have s3 := r0.len zQI (by decide)
  obtain ⟨aR, haR, _, hcl⟩ := h3.bd.rw_.elem zQk hy (o := 1) (v := .slice x.s.a x.s.len x.s.cap) (by rw [← hys]; rfl)
  have haR : d.rs.a = some aR := haR
  rw [ha] at haR; cases haR
  have mixl : ∀ k, (zZQ ((hv val c.1).take k) ((hv val c.2).take k) (hv val x)).length = (hv val x).length := fun k => zKP _ _ _
  refine zQz (hv val c.2).length (fun k t w' => t = (k : Int) /\ zQj w' 28 3 x.s ((zZQ ((hv val c.1).take k) ((hv val c.2).take k) (hv val x)).flatMap zXH) /\ Fr (· ∈ zQb x.s) w3 w') ⟨rfl, by rw [List.take_zero, List.take_zero, mix0]; exact r0, Fr.refl _ _⟩ ?_
  rintro k J t w4 hk ⟨ht, hr4, hf4⟩ hJ
  obtain rfl : t = (k : Int) := ht
  refine Br.of (fun d1 => ?_) (fun d1 => ?_)
  ·have hk2 : k < (hv val c.2).length := by have := zQn d1; omega
   obtain ⟨u, hu⟩ := zXg (l := hv val c.1) (k := k) (by omega)
   obtain ⟨v, hvk⟩ := zXg hk2
   obtain ⟨z, hz⟩ := zXg (l := hv val x) (k := k) (by omega)
   have k14 := k1.fr hf4 fun b hb hb2 => n1 b hb2 hb
   have k24 := k2.fr hf4 fun b hb hb2 => n2 b hb2 hb
   have V2 : RdV w4 c.2.s (hv val c.2) := zZO.rd (w0 := { w with heap := #[] }) ⟨k24, fun _ _ => Nat.zero_le _⟩ (by omega)
   obtain ⟨p, hp, c0, c1, c2⟩ := V2.get k v hvk
   refine ⟨p, hp, by omega, by omega, _, c0, _, c1, _, c2, alB fun w5 hp5 hb5 => zQl hb5 zKR.symm rfl rfl fun w6 hb6 hf6 _ => zQf fun w7 hp7 _ => ?_⟩
   have hp46 : Pu w4 w6 := hp5.andNew hf6 fun i hi => by rw [show i = w4.heap.size from hi]; exact Nat.le_refl _
   have hp47 := hp46.trans hp7
   have hb7 := hp7.blk hb6
   have V1 : RdV w7 c.1.s (hv val c.1) := zZO.rd (w0 := { w with heap := #[] }) ⟨k14.pu hp47, fun _ _ => Nat.zero_le _⟩ (by omega)
   obtain ⟨q, hq, e0, e1, e2⟩ := V1.get k u hu
   have nX : ¬ w.heap.size ∈ zQb x.s := fun e => by rw [ox _ e] at nR; cases nR
   have hb4 := hf4.blk hb3 nX
   refine ⟨c.1.s, cl (hp47.blk hb4) 1, q, hq, by omega, by omega, _, e0, _, e1, _, e2, _, cl hb7 0, _, cl hb7 1, _, cl hb7 2, _, fun w => yYe _ _ u v w, ?_⟩
   have hr7 := hr4.pu hp47
   refine Br.of (fun d2 => zQf fun w8 hp8 _ => ?_) (fun d2 => ?_)
   ·have d2 : u ≠ v := by simpa using d2
    have hb8 := hp8.blk hb7
    have hr8 := hr7.pu hp8
    obtain ⟨b, hb, hst⟩ := hr8.stElem (P := prog) (t := 28) zQI (by decide) (i := k) (by rw [mixl]; omega) v zKR.symm rfl (K := fun w' => J (IntKind.i64.wrap ((k : Int) + 1)) w') fun w9 hr9 hf9 hs9 => by
     rw [zQc (by omega) (by omega)]
     refine hJ _ _ hk2 ⟨by omega, ?_, ((hf4.trans (Fr.pu (hp47.trans hp8) : Fr (· ∈ zQb x.s) w4 w8) fun i hi _ => hi).trans hf9 fun i hi _ => hi)⟩
     rw [zJT hu hvk hz, if_neg d2]
     exact hr9
    have hcl8 : w8.cell? ((a.add (i * 2)).add 1) = some (.slice x.s.a x.s.len x.s.cap) := by
     have hf38 : Fr (· ∈ zQb x.s) w3 w8 := hf4.trans (Fr.pu (hp47.trans hp8) : Fr (· ∈ zQb x.s) w4 w8) fun i hi _ => hi
     have := (h3.bd.rw_.fr hf38 fun b hb e => by have h5 := oR b hb; rw [ox b e] at h5; cases h5)
     obtain ⟨aR, haR, _, hc2⟩ := this.elem zQk hy (o := 1) (v := .slice x.s.a x.s.len x.s.cap) (by rw [← hys]; rfl)
     have haR : d.rs.a = some aR := haR
     rw [ha] at haR; cases haR
     exact hc2
    exact ⟨x.s, hcl8, _, cl hb8 0, _, cl hb8 1, _, cl hb8 2, b, hb, by omega, by omega, hst⟩
   ·have d2 : u = v := by simpa using d2
    rw [zQc (by omega) (by omega)]
    refine hJ _ _ hk2 ⟨by omega, ?_, hf4.trans (Fr.pu hp47 : Fr (· ∈ zQb x.s) w4 w7) fun i hi _ => hi⟩
    rw [zJT hu hvk hz, if_pos d2, zJU (by rw [yQ6]; exact hz)]
    exact hr7
  ·have hk2 : k = (hv val c.2).length := by have := zQg d1; omega
   subst hk2
   rw [List.take_length, List.take_of_length_le (by omega)] at hr4
   have hby : y.s.a = some ab := by rw [hys]; exact hab
   have hD := h3.setVal hym hby (l' := zZQ (hv val c.1) (hv val c.2) (hv val x)) (by rw [hys]; exact hf4) (by rw [hys]; exact hr4)
   refine ⟨rfl, y, _, hys, hD, hf3.trans hf4 fun i hi _ => .inr (ox i hi), ?_⟩
   rw [zZL h3.bd.nd h3.bd.low hy hby]
   have e1 : zQa { d with rh := d.rh.set i y } val = { zQa d val with recs := (zQa d val).recs.set i (toR val y) } := by
    simp only [zQa, List.map_set]
    rfl
   rw [e1]
   show ({ zQa d val with recs := _ } : Dsk) = _
   rw [yWH, ← zXO eX]
   have e2 : zZM (toR val c.1, toR val c.2) (toR val x) = ⟨y.g, zZQ (hv val c.1) (hv val c.2) (hv val x)⟩ := by
    rw [hyg]; rfl
   rw [e2]; rfl
 have nM : ¬ w.heap.size ∈ zQb d.rs := fun e => by rw [oR _ e] at nR; cases nR
 refine Br.of (fun d0 => ⟨_, cl hb1 2, ?_⟩) (fun d0 => ?_)
 ·have d0 : c.1.g ≠ c.2.g := by simpa using d0
  obtain ⟨a1, ha1, hst⟩ := h1.bd.rw_.stField (i := i) (o := 0) zQk hi (by decide) { x with g := c.2.g } (.bool c.2.g) (fun y hy => by rw [hx] at hy; cases hy; rfl) (K := fun w3 => ∃ l21 : SV, w3.cell? (((⟨w.heap.size, 0, none⟩ : Addr).add 2).add 1) = some (.slice l21.a l21.len l21.cap) /\
   zYP (fun e w' => e = .returned (.tuple #[]) /\ ∃ (y : zQy) (val' : Nat -> List Val), y.s = x.s /\ zQh w' { d with rh := d.rh.set i y } 1 val' /\ Fr (RV d) w w' /\
   zQa { d with rh := d.rh.set i y } val' = { zQa d val with recs := (zQa d val).recs.modify i (zZM (toR val c.1, toR val c.2)) }) (some (a.add (i * 2))) (some ⟨w.heap.size, 0, none⟩) l21 ((l21.len : Nat) : Int) 0 [] w3) fun w3 hr3 hf3 hs3 => by
   have hb3 := hf3.blk hb1 nM
   have hF : Fr (RV d) w w3 := (Fr.pu hp1 : Fr (RV d) w w1).trans hf3 fun i hi _ => .inl (oR i hi)
   refine ⟨c.2.s, by rw [zQe, zQe, zQo hb3]; rfl, vals w3 { x with g := c.2.g } rfl (by rw [if_neg d0]) (setRh h1 hx rfl hf3 hr3) hF ((q1.pu hp1).fr hf3 fun b hb e => ?_) ((q2.pu hp1).fr hf3 fun b hb e => ?_) hb3⟩
   ·have := oR b e; rw [o1 b hb] at this; cases this
   ·have := oR b e; rw [o2 b hb] at this; cases this
  rw [ha] at ha1; cases ha1
  rw [yQM] at hst
  exact hst
 ·have d0 : c.1.g = c.2.g := by simpa using d0
  have e : d.rh.set i x = d.rh := zJU hx
  refine ⟨c.2.s, by rw [zQe, zQe, zQo hb1]; rfl, vals w1 x rfl (by rw [if_pos d0]) (by rw [e]; exact h1) (Fr.pu hp1) (q1.pu hp1) (q2.pu hp1) hb1⟩
end Go.Proofs.YtcihcbfcgjepfaaGreatDoor
/- Desks: the end of store: what was appended becomes part of the table. No condition but those stated. -/
namespace Go.Proofs.YtcihcbfcgjepfaaGreatDoor
open Go.Sh Go.RowKit Tryz
variable {w w' : World} {d d' : zQr} {val : Nat -> List Val} {mu : Int}
def xQK (u : Nat) (σ : Dsk) : Dsk := let x := σ.us u
 zX2 u ({ σ with recs := σ.recs ++ x.ap }.setU u { x with at_ := if x.at_ < 0 then (σ.recs.length : Int) - x.at_ else x.at_ })
theorem zWf (u : Nat) (σ : Dsk) : storedS u σ = xQK u { σ with recs := zXb (σ.us u).ch σ.recs } := by
 unfold storedS xQK
 simp only [zXj]
theorem zZA {e e' : TypeId} {z z' : Nat} {s t : SV} {vs ws : List Value} (h : zQj w e z s vs) (k : zQj w e' z' t ws) (hne : e ≠ e') : ∀ b ∈ zQb s, b ∉ zQb t := fun b hb hb2 => by
 obtain ⟨_, rfl | ⟨g, cur, h3, h4, _⟩⟩ := h
 ·simp [zQb] at hb
 ·obtain ⟨_, rfl | ⟨g', cur', k3, k4, _⟩⟩ := k
  ·simp [zQb] at hb2
  ·simp [zQb, h3] at hb
   simp [zQb, k3] at hb2
   subst hb; subst hb2
   rw [h4] at k4
   simp at k4
   exact hne k4.2
theorem zY2 (h : zQh w d 1 val) {u : Nat} (hu : u < 4) {w5 : World} {rs' t : SV} {out : List Int} (at' : Int) (hst : w5.heap[d.S]? = some (.cells (zQZ 1 (({ d with rs := rs' } : zQr).withAt u at')) 93)) (hrow : zQj w5 77 2 rs' ((d.rh ++ d.ah u).flatMap zJF))
  (hb : ∀ b ∈ zQb rs', b ∈ zQb d.rs ∨ w.heap.size <= b) (hf : Fr (fun b => b = d.S ∨ b ∈ zQb d.rs) w w5) (hN : zXD w w5 t out) :
  Calls prog 116 #[d.ptr, .int .i64 (u : Int), .pointer (some (uA d u))] w5 fun e w6 => e = .returned (.tuple #[]) /\ zXD w w6 t out /\ ∃ d', zQ4 w w6 d d' 1 val /\
   zQa d' val = zX2 u ({ zQa d val with recs := (zQa d val).recs ++ ((zQa d val).us u).ap }.setU u { (zQa d val).us u with at_ := at' }) := by
 obtain ⟨l, hl, hk⟩ := h.lm
 have hLS : d.L ≠ d.S := fun e => by have := h.bd.oL; rw [e, h.bd.oS] at this; cases this
 have oR := h.bd.oR
 have nL : ¬ (d.L = d.S ∨ d.L ∈ zQb d.rs) := fun e => by
  rcases e with e | e
  ·exact hLS e
  ·have := oR _ e; rw [h.bd.oL] at this; cases this
 refine (zY5 (d := ({ d with rs := rs' } : zQr).withAt u at') hst (hl.fr hf nL) hLS hu).mono ?_
 rintro e w6 ⟨rfl, hst6, hm6, hf6, l', hl', hk'⟩
 have z5 := hf.size
 have z6 := hf6.size
 have hF : Fr (fun b => b = d.S ∨ b ∈ zQb d.rs ∨ b = d.L) w w6 := (hf.mono (B' := fun b => b = d.S ∨ b ∈ zQb d.rs ∨ b = d.L) fun i hi _ => hi.elim .inl fun h => .inr (.inl h)).trans hf6 fun i hi _ => by
  rcases hi with hi | hi
  ·exact .inl hi
  ·exact .inr (.inr hi)
 have zr := hrow.lt
 have own5 : ∀ {b : Nat}, d.o b ≠ none -> b < w5.heap.size := fun {b} hb => by have := h.bd.lt b hb; omega
 have nt : ∀ b ∈ zQb t, ¬ (b = d.S ∨ b = d.L) := fun b hb e => by
  have h1 := h.bd.out (hN.2 b hb)
  rcases e with e | e
  ·rw [e, h.bd.oS] at h1; cases h1
  ·rw [e, h.bd.oL] at h1; cases h1
 have ne : ∀ {b : Nat} {κ : zX4}, d.o b = some κ -> κ ≠ .S -> κ ≠ .L -> κ ≠ .R -> ¬ (b = d.S ∨ b ∈ zQb d.rs ∨ b = d.L) := fun {b κ} hb h1 h2 h3 e => by
  rcases e with e | e | e
  ·rw [e, h.bd.oS] at hb; exact h1 (Option.some.inj hb).symm
  ·rw [oR b e] at hb; exact h3 (Option.some.inj hb).symm
  ·rw [e, h.bd.oL] at hb; exact h2 (Option.some.inj hb).symm
 have up : ∀ {b : Nat} {κ : zX4}, d.o b = some κ -> κ ≠ .R -> (if b = w5.heap.size then some (zX4.C u) else if b ∈ zQb rs' then some .R else d.o b) = some κ := fun {b κ} hbo hk => by
  have hlt : b < w5.heap.size := own5 (by rw [hbo]; simp)
  have hlw : b < w.heap.size := h.bd.lt b (by rw [hbo]; simp)
  rw [if_neg (by omega), if_neg fun e => ?_]
  ·exact hbo
  ·rcases hb b e with e | e
   ·rw [oR b e] at hbo; exact hk (Option.some.inj hbo).symm
   ·omega
 have nrs : ∀ b ∈ zQb rs', ¬ (b = d.S ∨ b = d.L) := fun b hb2 e => by
  rcases hb b hb2 with h1 | h1
  ·have h2 := oR b h1
   rcases e with e | e
   ·rw [e, h.bd.oS] at h2; cases h2
   ·rw [e, h.bd.oL] at h2; cases h2
  ·have h2 := h.bd.out h1
   rcases e with e | e
   ·rw [e, h.bd.oS] at h2; cases h2
   ·rw [e, h.bd.oL] at h2; cases h2
 have hbd := h.bd.genL hu (lk' := fun k => if d.lk k = some (u : Int) then none else d.lk k) (o' := fun b => if b = w5.heap.size then some (.C u) else if b ∈ zQb rs' then some .R else d.o b) (rs' := rs') (rh' := d.rh ++ d.ah u) (as' := ⟨none, 0, 0⟩) (ah' := []) (cs' := d.cs u) (ch' := []) (C' := w5.heap.size) hF
  ⟨l', hl', fun k => by
   rw [hk', hk, h.sd]
   split
   ·rfl
   ·cases d.lk k <;> rfl⟩ (up h.bd.oL (by simp)) (fun b κ hbo k0 k1 k2 k3 k4 => ⟨ne hbo k1 k0 k2, up hbo k2⟩) (up h.bd.oS (by simp)) (hrow.fr hf6 nrs) (fun b hb2 => by
   have := zr b hb2
   show (if b = w5.heap.size then _ else if b ∈ zQb rs' then _ else _) = _
   rw [if_neg (by omega), if_pos hb2]) (zQj.nil _ _ _) (by simp [zQb]) (fun _ => ⟨hm6, if_pos rfl⟩) (fun e => absurd (h.sd.symm.trans e) (by simp)) (fun x hx => by
   simp only [List.append_nil, chH, List.flatMap_nil, List.nil_append, List.mem_append] at hx
   rcases hx with hx | hx
   ·exact .inl ⟨x, zQK hx, rfl⟩
   ·exact .inl ⟨x, zX8 hu hx, rfl⟩) (by
   have hnd := (yZo hu).1 h.bd.nd
   have e : zXa d u = d.rh ++ (zXa d u).drop d.rh.length := by simp [zXa]
   rw [e] at hnd
   simp only [zKM, chH, List.flatMap_nil, List.nil_append]
   have p : (d.rh ++ d.ah u ++ (zXa d u).drop d.rh.length).Perm (d.ah u ++ (d.rh ++ (zXa d u).drop d.rh.length)) := by
    rw [List.append_assoc]; exact List.perm_append_comm_assoc ..
   refine (zXA p).nodup_iff.2 ?_
   rw [uH, List.append_assoc, zQt] at hnd
   exact (List.nodup_append.1 hnd).2.1) (fun b hbo => by
   by_cases e : b = w5.heap.size
   ·rw [e]; exact hm6.lt
   ·rw [if_neg e] at hbo
    by_cases e2 : b ∈ zQb rs'
    ·have := zr b e2; omega
    ·rw [if_neg e2] at hbo
     exact Nat.lt_of_lt_of_le (h.bd.lt b hbo) hF.size)
 refine ⟨rfl, hN.fr hf6 nt, _, ⟨⟨hst6, hbd.same d.mode (fun v => if v = u then at' else d.at_ v), h.sd⟩, hF.mono fun i hi _ => ?_, fun b hbo => ?_, rfl⟩, ?_⟩
 ·rcases hi with rfl | hi | rfl
  ·rw [h.bd.oS]; simp
  ·rw [oR i hi]; simp
  ·rw [h.bd.oL]; simp
 ·have hbo : (if b = w5.heap.size then some (zX4.C u) else if b ∈ zQb rs' then some .R else d.o b) ≠ none := hbo
  by_cases e : b = w5.heap.size
  ·right; omega
  ·rw [if_neg e] at hbo
   by_cases e2 : b ∈ zQb rs'
   ·rcases hb b e2 with h1 | h1
    ·left; rw [oR b h1]; simp
    ·right; exact h1
   ·rw [if_neg e2] at hbo; exact .inl hbo
 ·simp only [zQa, zX2, Dsk.setU, List.map_append, Dsk.mk.injEq]
  refine ⟨rfl, rfl, by simp [zQr.gen, zJ2], ?_, rfl⟩
  funext v
  by_cases e : v = u
  ·subst e; simp [zJ2, zQr.gen]
  ·simp [zJ2, zQr.gen, e]
end Go.Proofs.YtcihcbfcgjepfaaGreatDoor
/- Desks: store: the appended records. No condition but those stated. -/
namespace Go.Proofs.YtcihcbfcgjepfaaGreatDoor
open Go.Sh Go.RowKit Tryz
variable {w w' : World} {d d' : zQr} {val : Nat -> List Val} {mu : Int}
theorem yZm (h : zQh w d 1 val) {u : Nat} (hu : u < 4) (hb : d.rh.length + (d.ah u).length <= 1000) (hat : -(d.at_ u) <= (d.ah u).length) {R : Rt}
  (hR : ∀ w' q d', zXD w w' q (storeL u (zQa d val)) -> zQ4 w w' d d' 1 val -> zQa d' val = xQK u (zQa d val) -> R (.returned (.tuple #[.slice q.a q.len q.cap, .int .i64 0])) w') :
  xXY R (some ⟨d.S, 0, none⟩) (u : Int) (some (uA d u)) [] w := by
 refine ⟨d.asv u, h.uAp hu, ?_⟩
 have hal := h.as_len hu
 have hrl := h.rs_len
 have oR := h.bd.oR
 have eA : ((zQa d val).us u).at_ = d.at_ u := rfl
 have eR : (zQa d val).recs.length = d.rh.length := by simp [zQa]
 have eP : ((zQa d val).us u).ap.length = (d.ah u).length := zX0
 have eL : storeL u (zQa d val) = (List.range (d.ah u).length).map fun (j : Nat) => ((d.rh.length : Int) + j) + 1 := by unfold storeL; rw [eP, eR]
 have d0 : zQZ 1 { d with rs := d.rs } = zQZ 1 d := rfl
 refine zQz (d.ah u).length (fun k t w' => t.2 = (k : Int) /\ ∃ rk : SV, zQj w' 77 2 rk ((d.rh ++ (d.ah u).take k).flatMap zJF) /\ (∀ b ∈ zQb rk, b ∈ zQb d.rs ∨ w.heap.size <= b) /\ w'.heap[d.S]? = some (.cells (zQZ 1 { d with rs := rk }) 93) /\
  zXD w w' t.1 ((List.range k).map fun (j : Nat) => ((d.rh.length : Int) + j) + 1) /\ Fr (fun b => b = d.S ∨ b ∈ zQb d.rs) w w') ⟨rfl, d.rs, by simpa using h.bd.rw_, fun b hb => .inl hb, h.st, zXD.nil _ _, Fr.refl _ _⟩ ?_
 rintro k J ⟨t, n⟩ w1 hk ⟨hn, rk, hrow, hrb, hst, hN, hf⟩ hJ
 obtain rfl : n = (k : Int) := hn
 dsimp only at hN
 have nA : ∀ b ∈ zQb (d.asv u), ¬ (b = d.S ∨ b ∈ zQb d.rs) := fun b hb e => by
  have h1 := h.bd.oA u hu b hb
  rcases e with e | e
  ·rw [e, h.bd.oS] at h1; cases h1
  ·rw [oR b e] at h1; cases h1
 have hasv := (h.bd.aw u hu).fr hf nA
 have hkl := List.length_take_le k (d.ah u)
 have hrlen := hrow.len zQk (by decide)
 rw [List.length_append] at hrlen
 refine Br.of (fun d1 => ?_) (fun d1 => ?_)
 ·have hk2 : k < (d.ah u).length := by have := zQn d1; omega
  have hkt : ((d.ah u).take k).length = k := by rw [List.length_take]; omega
  obtain ⟨x, hx⟩ := zXg hk2
  obtain ⟨a, ea, _, g0⟩ := hasv.elem zQk hx (o := 0) (v := .bool x.g) rfl
  obtain ⟨a', ea', _, g1⟩ := hasv.elem zQk hx (o := 1) (v := .slice x.s.a x.s.len x.s.cap) rfl
  rw [ea] at ea'; cases ea'
  refine ⟨a, ea, by omega, by omega, x.g, g0, x.s, g1, alB fun w2 hp2 hb2 => zQl hb2 yQw.symm rfl rfl fun w3 hb3 hf3 hs3 => zQf fun w4 hp4 _ => ?_⟩
  have hp13 : Pu w1 w3 := hp2.andNew hf3 fun i hi => by rw [show i = w1.heap.size from hi]; exact Nat.le_refl _
  have hp14 := hp13.trans hp4
  have hb4 := hp4.blk hb3
  have hst4 := hp14.blk hst
  have rcell : ∀ y, Pu w4 y -> y.cell? (((⟨d.S, 0, none⟩ : Addr).add 2).add 2) = some (.slice rk.a rk.len rk.cap) := fun y hy => by rw [zQe, zQe, zQo (hy.blk hst4)]; rfl
  refine ⟨fun y => Pu w4 y, Pu.refl _, rk, fun y hy => rcell y hy, x.g, fun y hy => cl (hy.blk hb4) 0, x.s, fun y hy => cl (hy.blk hb4) 1, alB fun w5 hp5 hb5 => ⟨hp5, ?_⟩⟩
  have hp15 := hp14.trans hp5
  have hrow5 := hrow.pu hp15
  obtain ⟨r', w6, hra, hrow6, hf6, hblk6, _⟩ := zQ2 (P := prog) (ty := 23) yYn zJh rfl (by omega) hrow5 (A := some ⟨w4.heap.size, 0, none⟩) (m := 1) (c := 1) (news := [.bool x.g, .slice x.s.a x.s.len x.s.cap]) rfl (fun j y hy => ⟨_, rfl, by rw [cl hb5]; simpa using hy⟩) (fun y hy => by simp at hy; rcases hy with rfl | rfl <;> rfl) (by show (rk.len + 1) * (32 + 1) <= _; omega)
  refine ⟨r', w6, hra, ?_⟩
  have z1 := hf.size
  have z5 := hp15.size
  have nS : ∀ b ∈ zQb rk, ¬ b = d.S := fun b hb e => by
   rcases hrb b hb with h1 | h1
   ·have := oR b h1; rw [e, h.bd.oS] at this; cases this
   ·have := h.bd.out h1; rw [e, h.bd.oS] at this; cases this
  have hst6 := hf6.blk (hp15.blk hst) (fun e => nS _ e rfl)
  rw [zQ9, zQe, zQe]
  refine zQv hst6 (by show 0 + 2 + 2 < 22; omega) fun w7 hw7 hb7 => ?_
  have hf7 : Fr (· = d.S) w6 w7 := by rw [hw7]; exact Fr.cell w6 _ _ _
  have hb7 : w7.heap[d.S]? = some (.cells (zQZ 1 { d with rs := r' }) 93) := hb7
  have nS' : ∀ b ∈ zQb r', ¬ b = d.S := fun b hb e => by
   rcases hblk6 b hb with h1 | h1
   ·exact nS b h1 e
   ·have h2 := h.bd.lt d.S (by rw [h.bd.oS]; simp)
    omega
  have hrow7 := hrow6.fr hf7 nS'
  refine ⟨r', by rw [zQe, zQe, zQo hb7]; rfl, alB fun w8 hp8 hb8 => ?_⟩
  have er : r'.len = rk.len + 1 := by
   have h1 := hrow7.1
   simp only [List.length_append, zQu zQk, List.length_cons, List.length_nil] at h1
   omega
  have eint : ((r'.len : Nat) : Int) = ((d.rh.length : Int) + k) + 1 := by rw [er, hrlen, hkt]; omega
  rw [eint] at hb8
  -- the row of numbers
  have hNt : zXD w w5 t _ := hN.pu hp15
  have ap1 : ∀ b ∈ zQb t, b ∉ zQb rk := zZA hNt.1 hrow5 (by decide)
  have hN7 := ((hNt.fr hf6 ap1).fr hf7 fun b hb e => by have h1 := h.bd.out (hN.2 b hb); rw [e, h.bd.oS] at h1; cases h1).pu hp8
  have z6 := hf6.size
  have z7 := hf7.size
  have z8 := hp8.size
  obtain ⟨t', w9, hra9, hN9, hf9⟩ := hN7.push (by omega) hb8 (by simp; omega)
  refine ⟨t', w9, hra9, ?_⟩
  rw [zQc (by omega) (by omega)]
  have hrow8 := hrow7.pu hp8
  have ap2 : ∀ b ∈ zQb r', b ∉ zQb t := zZA hrow8 hN7.1 (by decide)
  refine hJ _ _ hk2 ⟨by simp, r', ?_, fun b hb => ?_, hf9.blk (hp8.blk hb7) (fun e => by have h1 := h.bd.out (hN.2 _ e); rw [h.bd.oS] at h1; cases h1), ?_, ?_⟩
  ·rw [zQO hx, ← List.append_assoc, List.flatMap_append, List.flatMap_singleton]
   exact hrow8.fr hf9 ap2
  ·rcases hblk6 b hb with h1 | h1
   ·exact hrb b h1
   ·right; omega
  ·rw [List.range_succ, List.map_append]; exact hN9
  ·have q1 : Fr (fun b => b = d.S ∨ b ∈ zQb d.rs) w w6 := (hf.trans (Fr.pu hp15 : Fr (fun b => b = d.S ∨ b ∈ zQb d.rs) w1 w5) fun i hi _ => hi).trans hf6 fun i hi hlt => by
    rcases hrb i hi with h1 | h1
    ·exact .inr h1
    ·omega
   exact ((q1.trans hf7 fun i hi _ => .inl hi).trans (Fr.pu hp8 : Fr (fun b => b = d.S ∨ b ∈ zQb d.rs) w7 w8) fun i hi _ => hi).trans hf9 fun i hi hlt => by have := hN.2 i hi; omega
 ·have hk2 : k = (d.ah u).length := by have := zQg d1; omega
  subst hk2
  rw [List.take_length] at hrow
  have eU : w1.cell? ((uA d u).add 1) = some (.int .i64 (d.at_ u)) := by rw [zQe, zQo hst]; exact zVK (d := { d with rs := rk }) hu
  refine ⟨_, eU, Br.of (fun c => ?_) (fun c => ?_)⟩
  ·have c := zQn c
   have ew : IntKind.i64.wrap ((IntKind.i64.wrap (0 - d.at_ u)) - 1) = -d.at_ u - 1 := by rw [zQc (n := 0 - d.at_ u) (by omega) (by omega), zQc (by omega) (by omega)]; omega
   have hlt : (-d.at_ u - 1).toNat < (d.ah u).length := by omega
   have hNl := hN.len
   simp only [List.length_map, List.length_range] at hNl
   obtain ⟨a, ha, hc, _⟩ := hN.1.cell (j := (-d.at_ u - 1).toNat) (v := .int .i64 ((d.rh.length : Int) - d.at_ u)) (by
    rw [List.getElem?_map, List.getElem?_map, List.getElem?_range hlt]
    simp only [Option.map_some, Option.some.injEq]
    congr 1; omega)
   refine ⟨_, eU, a, ha, ?_⟩
   rw [ew]
   refine ⟨by omega, by show -d.at_ u - 1 < ((t.len : Nat) : Int); omega, (d.rh.length : Int) - d.at_ u, by rw [Nat.mul_one]; exact hc, ?_⟩
   rw [zQ9, zQe]
   refine zQv hst (by show 5 + u * 4 + 1 < 22; omega) fun w2 hw2 hb2 => ?_
   have hf2 : Fr (· = d.S) w1 w2 := by rw [hw2]; exact Fr.cell w1 _ _ _
   rw [zJ1 hu] at hb2
   have nS : ∀ b ∈ zQb rk, ¬ b = d.S := fun b hb e => by
    rcases hrb b hb with h1 | h1
    ·have := oR b h1; rw [e, h.bd.oS] at this; cases this
    ·have := h.bd.out h1; rw [e, h.bd.oS] at this; cases this
   refine (zY2 h hu _ hb2 (hrow.fr hf2 nS) hrb (hf.trans hf2 fun i hi _ => .inl hi) (hN.fr hf2 fun b hb e => by have h1 := h.bd.out (hN.2 b hb); rw [e, h.bd.oS] at h1; cases h1)).mono ?_
   rintro e w3 ⟨rfl, hN3, d', hL, habs⟩
   refine ⟨rfl, hR w3 t d' (by rw [eL]; exact hN3) hL ?_⟩
   rw [habs]
   simp only [xQK, eA, eR]
   rw [if_pos c]
  ·have c := zQg c
   have e1 : zQZ 1 { d with rs := rk } = zQZ 1 (({ d with rs := rk } : zQr).withAt u (d.at_ u)) := by
    have e : (fun v => if v = u then d.at_ u else d.at_ v) = d.at_ := by funext v; by_cases e : v = u <;> simp [e]
    simp only [zQr.withAt, e]
   rw [e1] at hst
   refine (zY2 h hu _ hst hrow hrb hf hN).mono ?_
   rintro e w3 ⟨rfl, hN3, d', hL, habs⟩
   refine ⟨rfl, hR w3 t d' (by rw [eL]; exact hN3) hL ?_⟩
   rw [habs]
   simp only [xQK, eA, eR]
   rw [if_neg c]
end Go.Proofs.YtcihcbfcgjepfaaGreatDoor
/- Desks: store. No condition but those stated. -/
namespace Go.Proofs.YtcihcbfcgjepfaaGreatDoor
open Go.Sh Go.RowKit Tryz
variable {w w' : World} {d d' : zQr} {val : Nat -> List Val} {mu : Int}
def zZ4 (ch : List (Int × (Rec × Rec))) (todo : List Chg) (l : List Rec) : List Rec := l.mapIdx fun i r => if (AL.get todo ((i : Int) + 1)).isSome then r else match AL.get ch ((i : Int) + 1) with
 | some c => zZM c r
 | none => r
theorem zV6 (ch : List (Int × (Rec × Rec))) (l : List Rec) : zZ4 ch [] l = zXb ch l := by
 unfold zZ4 zXb
 congr 1
theorem zWW (val : Nat -> List Val) (ch : List Chg) (l : List Rec) : zZ4 (ch.map (toC val)) ch l = l := by
 unfold zZ4
 refine List.ext_getElem? fun j => ?_
 rw [List.getElem?_mapIdx]
 cases l[j]? with
 | none => rfl
 | some r =>
  simp only [Option.map_some, Option.some.injEq]
  rw [zZk]
  cases AL.get ch ((j : Int) + 1) <;> rfl
theorem zWR (ch : List (Int × (Rec × Rec))) (todo : List Chg) (l : List Rec) : (zZ4 ch todo l).length = l.length := by simp [zZ4]
theorem zWV {ch : List (Int × (Rec × Rec))} {todo : List Chg} {l : List Rec} {i : Nat} {k : Int} (hk : (i : Int) + 1 = k) {v : zQy × zQy} (hg : AL.get todo k = some v) : (zZ4 ch todo l)[i]? = l[i]? := by
 unfold zZ4
 rw [List.getElem?_mapIdx, hk, hg]
 cases l[i]? <;> rfl
theorem zWg {ch : List (Int × (Rec × Rec))} {todo : List Chg} {l : List Rec} {i : Nat} {k : Int} (hk : (i : Int) + 1 = k) (hn : (todo.map Prod.fst).Nodup) {v : zQy × zQy} (hg : AL.get todo k = some v) {C : Rec × Rec} (hc : AL.get ch k = some C) :
  (zZ4 ch todo l).modify i (zZM C) = zZ4 ch (AL.del todo k) l := by
 refine List.ext_getElem? fun j => ?_
 rw [List.getElem?_modify]
 unfold zZ4
 rw [List.getElem?_mapIdx, List.getElem?_mapIdx]
 cases l[j]? with
 | none => rfl
 | some r =>
  simp only [Option.map_some, Option.some.injEq]
  rw [AL.get_del hn]
  by_cases e : i = j
  ·subst e
   simp [hk, hg, hc]
  ·simp [e, show ¬ k = (j : Int) + 1 by omega]
theorem xXT (k : Int) (c : zQy × zQy) (K : Int -> Bool -> SV -> Bool -> SV -> Prop) : (yW2 .i64 (zXu k) fun n => yJd (chV c) fun q0 => dHd q0 fun x0 q1 => dBl x0 fun b0 => dHd q1 fun x1 q2 => dSl x1 fun l1 => dHd q2 fun x2 q3 => dBl x2 fun b2 => dHd q3 fun x3 q4 => dSl x3 fun l3 => yJ3 q4 (K n b0 l1 b2 l3)) = K k c.1.g c.1.s c.2.g c.2.s := rfl
theorem yQi (h : zQh w d 1 val) (hI : Inv (zQa d val)) {u : Nat} (hu : u < 4) {R : Rt}
  (hR : ∀ w' q d' val', zXD w w' q (storeL u (zQa d val)) -> zQ4 w w' d d' 1 val' -> zQa d' val' = storedS u (zQa d val) -> R (.returned (.tuple #[.slice q.a q.len q.cap, .int .i64 0])) w') :
  xXQ R (some ⟨d.S, 0, none⟩) (u : Int) (some (uA d u)) [] w := by
 have hl3 := hI.chl hu
 have ha3 := hI.ah hu
 have hr3 := hI.rh
 have hat := hI.at_ u hu
 have eA : ((zQa d val).us u).at_ = d.at_ u := rfl
 rw [eA, zX0] at hat
 have hf16 : d.flds.length <= 16 := hI.f16
 have hl1 : 0 < d.flds.length := List.length_pos_iff.2 (zQE hI.vf).1
 have hrl := h.rs_len
 obtain ⟨w0, hrun, hi0, hp0, hs0⟩ := (h.mp hu).range (P := prog) xXV
 refine ⟨some (d.C u), h.uCh hu, _, w0, hrun, ?_⟩
 have nr : d.o w.heap.size = none := h.bd.out (Nat.le_refl _)
 have oC := h.bd.oC h.sd u hu
 have eCh : ((zQa d val).us u).ch = (d.ch u).map (toC val) := rfl
 have nRV : ¬ RV d (d.C u) := fun e => by rw [RV, oC] at e; rcases e with e | e <;> cases e
 have nRV2 : ¬ RV d w.heap.size := fun e => by rw [RV, nr] at e; rcases e with e | e <;> cases e
 refine zVP (d.ch u).length (fun m _ w' => ∃ (todo : List Chg) (rhk : List zQy) (valk : Nat -> List Val), todo.length = m /\ zQQ w' zXu chV w.heap.size (d.C u) (d.ch u) todo /\ zQh w' { d with rh := rhk } 1 valk /\ Fr (fun b => RV d b ∨ b = w.heap.size) w w' /\
  zQa { d with rh := rhk } valk = { zQa d val with recs := zZ4 ((zQa d val).us u).ch todo (zQa d val).recs } /\ (∀ k v, AL.get todo k = some v -> AL.get (d.ch u) k = some v))
  ⟨d.ch u, d.rh, val, rfl, hi0, h.pu hp0, Fr.pu hp0, by rw [eCh, zWW], fun _ _ h => h⟩ ?_
 rintro m J s w1 ⟨todo, rhk, valk, hm, hi, hD, hf, habs, hT⟩ hJ
 have erl : rhk.length = d.rh.length := by
  have := congrArg (fun σ : Dsk => σ.recs.length) habs
  simp only [zWR] at this
  simpa [zQa] using this
 have eus : ∀ p ∈ d.ch u, toC valk p = toC val p := by
  have h1 := congrArg (fun σ : Dsk => (σ.us u).ch) habs
  exact List.map_inj_left.1 h1
 rcases hi.next (P := prog) 0 with ⟨h0, hr⟩ | ⟨p, hp, w2, hr, hf2, hs2, hi2, hen⟩
 ·left
  refine ⟨w1, hr, ?_⟩
  rw [h0, zV6] at habs
  refine yZm hD hu (by show rhk.length + (d.ah u).length <= 1000; omega) (by show -(d.at_ u) <= ((d.ah u).length : Int); omega) fun w' q d' hN hL ha => ?_
  have hL1 : zQ4 w w1 d { d with rh := rhk } 1 valk := ⟨hD, hf.mono fun i hi hlt => by
   rcases hi with (hi | hi) | hi
   ·rw [hi]; simp
   ·rw [hi]; simp
   ·omega, fun b hb => .inl hb, rfl⟩
  refine hR w' q d' valk ?_ (hL1.trans hL) ?_
  ·have e : storeL u (zQa { d with rh := rhk } valk) = storeL u (zQa d val) := by
    rw [habs]; unfold storeL; simp only [zXj]
   rw [e] at hN
   exact hN.low hf.size
  ·rw [ha, habs, zWf]
 ·right
  have hg : AL.get todo p.1 = some p.2 := AL.get_of_mem hi.nodup hp
  have hgc := hT _ _ hg
  have hpm : p ∈ d.ch u := AL.get_mem hgc
  have hxr := (hI.gc u hu (toC val p) (List.mem_map.2 ⟨p, hpm, rfl⟩))
  have hkr : 1 <= p.1 /\ p.1 <= d.rh.length := by simpa [toC, zQa] using hxr.2
  have hD2 : zQh w2 { d with rh := rhk } 1 valk := hD.fr hf2 fun b hb e => hb (by rw [show b = w.heap.size from e]; exact nr)
  refine ⟨_, _, w2, hr, _, _, w2, hen, ?_⟩
  rw [xXT]
  refine alB fun w3 hp3 hb3 => zQl hb3 yJC.symm rfl rfl fun w4 hb4 hf4 hs4 => zQf fun w5 hp5 _ => ?_
  have hp24 : Pu w2 w4 := hp3.andNew hf4 fun i hi => by rw [show i = w2.heap.size from hi]; exact Nat.le_refl _
  have hp25 := hp24.trans hp5
  have hb5 := hp5.blk hb4
  have hD5 := hD2.pu hp25
  have hlt : (p.1 - 1).toNat < rhk.length := by omega
  obtain ⟨x, hx⟩ := zXg hlt
  obtain ⟨a, ea, _, _⟩ := hD5.bd.rw_.elem zQk hx (o := 0) (v := .bool x.g) rfl
  have ea : d.rs.a = some a := ea
  refine ⟨_, cl hb5 0, p.2.1.s, cl hb5 1, _, cl hb5 2, p.2.2.s, cl hb5 3, d.rs, hD5.recs, a, ea, ?_⟩
  rw [zQc (n := p.1 - 1) (by omega) (by omega)]
  refine ⟨by omega, by omega, ?_⟩
  have mc := zJc (d := { d with rh := rhk }) hu (c := p) hpm
  have hap := (zKW hD5.bd.nd hD5.bd.low).2 u
  have hxv : ∀ b ∈ zQb x.s, b ∈ vB rhk := fun b hb => zXk (List.mem_of_getElem? hx) hb
  have hcv : ∀ z, z = p.2.1 ∨ z = p.2.2 -> ∀ b ∈ zQb z.s, b ∈ vB (uH d u) := fun z hz b hb => zXk (List.mem_append_left _ (List.mem_flatMap.2 ⟨p, hpm, by rcases hz with rfl | rfl <;> simp⟩)) hb
  have ep := eus p hpm
  have e1 : hv valk p.2.1 = hv val p.2.1 := congrArg (fun z : Int × (Rec × Rec) => z.2.1.v) ep
  have e2 : hv valk p.2.2 = hv val p.2.2 := congrArg (fun z : Int × (Rec × Rec) => z.2.2.v) ep
  have k1 : (hv val p.2.1).length = d.flds.length := zQ7 hxr.1.1
  have k2 : (hv val p.2.2).length = d.flds.length := zQ7 hxr.1.2
  have exr : toR valk x = (zQa d val).recs.getD (p.1 - 1).toNat default /\ (hv valk x).length = d.flds.length := by
   have h1 := congrArg (fun σ : Dsk => σ.recs[(p.1 - 1).toNat]?) habs
   simp only [zWV (i := (p.1 - 1).toNat) (k := p.1) (by omega) hg] at h1
   have h2 : (rhk.map (toR valk))[(p.1 - 1).toNat]? = (zQa d val).recs[(p.1 - 1).toNat]? := h1
   rw [List.getElem?_map, hx] at h2
   refine ⟨by rw [List.getD_eq_getElem?_getD, ← h2]; rfl, ?_⟩
   have h3 := hI.gr (toR valk x) (List.mem_of_getElem? h2.symm)
   exact zQ7 h3
  refine (xZw hD5 (c := p.2) mc.1 mc.2 hx (fun b hb hb2 => hap b (hxv b hb) (hcv _ (.inl rfl) b hb2)) (fun b hb hb2 => hap b (hxv b hb) (hcv _ (.inr rfl) b hb2)) (by rw [e1, e2, k1, k2]) (by rw [e2, k2, exr.2]) (by rw [e2, k2]; omega) (by rw [e2, k2]; exact hl1) ea).mono ?_
  rintro e w6 ⟨rfl, y, val', hys, hD6, hf6, habs6⟩
  refine ⟨rfl, ?_⟩
  have hf6 : Fr (RV d) w5 w6 := hf6
  have hlen := AL.length_del hp hi.nodup
  have z1 := hf.size
  refine hJ (m - 1) _ _ (by omega) ⟨AL.del todo p.1, rhk.set (p.1 - 1).toNat y, val', by omega, (hi2.fr (Fr.pu hp25 : Fr (RV d) w2 w5) nRV2 nRV).fr hf6 nRV2 nRV, hD6, ?_, ?_, fun k v hk => ?_⟩
  ·exact ((hf.trans hf2 fun i hi _ => .inr hi).trans (Fr.pu hp25 : Fr (fun b => RV d b ∨ b = w.heap.size) w2 w5) fun i hi _ => hi).trans hf6 fun i hi _ => .inl hi
  ·have e3 : (toR valk p.2.1, toR valk p.2.2) = (toR val p.2.1, toR val p.2.2) := congrArg Prod.snd ep
   have h7 : zQa { d with rh := rhk.set (p.1 - 1).toNat y } val' = { zQa { d with rh := rhk } valk with recs := (zQa { d with rh := rhk } valk).recs.modify (p.1 - 1).toNat (zZM (toR valk p.2.1, toR valk p.2.2)) } := habs6
   rw [h7, habs, e3]
   have h8 := zWg (l := (zQa d val).recs) (ch := ((zQa d val).us u).ch) (i := (p.1 - 1).toNat) (k := p.1) (by omega) hi.nodup hg (C := (toR val p.2.1, toR val p.2.2)) (by rw [eCh, zZk, hgc]; rfl)
   simp only [h8]
  ·rw [AL.get_del hi.nodup] at hk
   by_cases e : p.1 = k
   ·rw [if_pos e] at hk; cases hk
   ·rw [if_neg e] at hk; exact hT k v hk
end Go.Proofs.YtcihcbfcgjepfaaGreatDoor
/- Desks: Store, and leaving a row. No condition but those stated. -/
namespace Go.Proofs.YtcihcbfcgjepfaaGreatDoor
open Go.Sh Go.RowKit Tryz
variable {w w' : World} {d d' : zQr} {val : Nat -> List Val} {mu : Int}
def zWn (d : zQr) (u : Nat) (k : Int) : Bool := match d.lk k with
 | some v => !decide (v = (u : Int))
 | none => false
theorem zWd (d : zQr) (val : Nat -> List Val) (u : Nat) : busyB (zQa d val) u = (d.ch u).any fun c => zWn d u c.1 := by
 show ((d.ch u).map (toC val)).any _ = _
 rw [List.any_map]; rfl
def StP (w : World) (d : zQr) (val : Nat -> List Val) (u : Nat) (force : Bool) : Rt := fun e w' => ∃ q : SV, e = .returned (.tuple #[.slice q.a q.len q.cap, .int .i64 (storeC u force (zQa d val))]) /\
 zXD w w' q (if storeC u force (zQa d val) = 0 then storeL u (zQa d val) else []) /\ ∃ d' val', zQ4 w w' d d' 1 val' /\ zQa d' val' = storeS u force (zQa d val)
theorem StP.bad (h : zQh w d 1 val) {u : Nat} {force : Bool} {w1 : World} (hp : Pu w w1) {n : Int} (hn : storeC u force (zQa d val) = n) (h0 : n ≠ 0) : StP w d val u force (.returned (.tuple #[.slice none 0 0, .int .i64 n])) w1 :=
 ⟨⟨none, 0, 0⟩, by rw [hn], by rw [hn, if_neg h0]; exact zXD.nil _ _, d, val, zQ4.pu h hp, by rw [storeS, hn, if_neg h0]⟩
theorem zWZ (h : zQh w d 1 val) (hI : Inv (zQa d val)) {u : Nat} (hu : u < 4) {force : Bool} (hc : ¬ (force = false /\ clashK (zQa d val) u ≠ [])) {w1 : World} (hp1 : Pu w w1) :
  ∃ m30 : Option Nat, w1.cell? ((uA d u).add 2) = some (.map m30) /\ ∃ p31 : Option Addr, ∃ w45 : World, (Instr.range 88 (.map m30)).run prog w1 = .ok (.pointer p31) w45 /\ yX0 (StP w d val u force) (some ⟨d.S, 0, none⟩) (u : Int) (some (uA d u)) p31 [] w45 := by
 have h1 := h.pu hp1
 obtain ⟨w2, hrun, hi2, hp2, hs2⟩ := (h1.mp hu).range (P := prog) xXV
 refine ⟨some (d.C u), h1.uCh hu, _, w2, hrun, ?_⟩
 have eC : storeC u force (zQa d val) = if busyB (zQa d val) u = true then 12 else 0 := by rw [storeC, if_neg hc]
 obtain ⟨l, hl, hk⟩ := h1.lm
 have zC := (h1.mp hu).lt
 have zL := hl.lt
 refine zVP (d.ch u).length (fun m _ w' => ∃ todo : List Chg, todo.length = m /\ zQQ w' zXu chV w1.heap.size (d.C u) (d.ch u) todo /\ Pu w1 w' /\ (∀ k v, AL.get todo k = some v -> AL.get (d.ch u) k = some v) /\ (∀ p ∈ d.ch u, (AL.get todo p.1).isSome = true ∨ zWn d u p.1 = false))
  ⟨d.ch u, rfl, hi2, hp2, fun _ _ h => h, fun p hp => .inl (by rw [AL.get_of_mem (h1.mp hu).nodup (v := p.2) hp]; rfl)⟩ ?_
 rintro m J s w3 ⟨todo, hm, hi, hp3, hT, hB⟩ hJ
 rcases hi.next (P := prog) 0 with ⟨h0, hr⟩ | ⟨p, hp, w4, hr, hf4, hs4, hi4, hen⟩
 ·left
  refine ⟨w3, hr, ?_⟩
  have hb : busyB (zQa d val) u = false := by
   rw [zWd, List.any_eq_false]
   intro p hp
   rcases hB p hp with h2 | h2
   ·rw [h0] at h2; cases h2
   ·rw [h2]; simp
  rw [hb] at eC
  have eC : storeC u force (zQa d val) = 0 := eC
  refine yQi (h1.pu hp3) hI hu fun w' q d' val' hN hL habs => ?_
  exact ⟨q, by rw [eC], by rw [eC, if_pos rfl]; exact hN.low (hp1.trans hp3).size, d', val', (zQ4.pu h (hp1.trans hp3)).trans hL, by rw [habs, storeS, eC, if_pos rfl]⟩
 ·right
  have hg : AL.get todo p.1 = some p.2 := AL.get_of_mem hi.nodup hp
  have hpm : p ∈ d.ch u := AL.get_mem (hT _ _ hg)
  have hp14 : Pu w1 w4 := hp3.andNew hf4 fun i hi => by rw [show i = w1.heap.size from hi]; exact Nat.le_refl _
  have hlen := AL.length_del hp hi.nodup
  refine ⟨_, _, w4, hr, _, _, w4, hen, some d.L, (h1.pu hp14).locks, _, _, w4, yQp (hl.pu hp14) p.1, ?_⟩
  have goOn : zWn d u p.1 = false -> J () w4 := fun hb => by
   refine hJ (m - 1) _ _ (by omega) ⟨AL.del todo p.1, by omega, hi4, hp14, fun k v hk => ?_, fun q hq => ?_⟩
   ·rw [AL.get_del hi.nodup] at hk
    by_cases e : p.1 = k
    ·rw [if_pos e] at hk; cases hk
    ·rw [if_neg e] at hk; exact hT k v hk
   ·rw [AL.get_del hi.nodup]
    by_cases e : p.1 = q.1
    ·right; rw [← e]; exact hb
    ·rw [if_neg e]; exact hB q hq
  refine Br.of (fun c1 => ?_) (fun c1 => ?_)
  ·obtain ⟨v, hv⟩ := Option.isSome_iff_exists.1 c1
   have hv' := hv
   rw [hk] at hv'
   rw [hv]
   refine Br.of (fun c2 => ?_) (fun c2 => ?_)
   ·have c2 : v ≠ (u : Int) := zQC c2
    have hb : busyB (zQa d val) u = true := by
     rw [zWd, List.any_eq_true]
     exact ⟨p, hpm, by unfold zWn; rw [hv']; simp [c2]⟩
    rw [hb] at eC
    exact StP.bad h (hp1.trans hp14) (n := 12) eC (by decide)
   ·have c2 : v = (u : Int) := zQw c2
    exact goOn (by unfold zWn; rw [hv']; simp [c2])
  ·have hv : AL.get l p.1 = none := by simpa using c1
   rw [hk] at hv
   exact goOn (by unfold zWn; rw [hv])
theorem yKK (h : zQh w d 1 val) (hI : Inv (zQa d val)) {u : Nat} (hu : u < 4) (force : Bool) :
  Calls prog 55 #[d.ptr, .int .i64 (u : Int), .pointer (some (uA d u)), .bool force] w (StP w d val u force) := by
 refine yWG _ _ _ _ w _ (Br.of (fun c => ?_) (fun c => ?_))
 ·have c : force = false := by simpa using c
  refine (zV0 h hI hu).mono ?_
  rintro e w1 ⟨q, rfl, hN, hp1⟩
  have hql := hN.len
  rw [List.length_map] at hql
  refine ⟨q, rfl, Br.of (fun c1 => ?_) (fun c1 => ?_)⟩
  ·have c1 := zQn c1
   have hne : clashK (zQa d val) u ≠ [] := List.length_pos_iff.1 (by omega)
   exact StP.bad h hp1 (n := 13) (by rw [storeC, if_pos ⟨c, hne⟩]) (by decide)
  ·have c1 := zQg c1
   have he : clashK (zQa d val) u = [] := List.eq_nil_of_length_eq_zero (by omega)
   exact zWZ h hI hu (fun e => e.2 he) hp1
 ·have c : force = true := by simpa using c
  exact zWZ h hI hu (fun e => by rw [c] at e; cases e.1) (Pu.refl w)
theorem zVE (h : zQh w d 0 val) (hI : Inv (zQa d val)) (u : Int) (force : Bool) :
  Calls prog 17 #[d.ptr, .int .i64 u, .bool force] w fun e w' => ∃ q : SV, e = .returned (.tuple #[.slice q.a q.len q.cap, .int .i64 (storeE u force (zQa d val))]) /\ zXD w w' q (storeEL u force (zQa d val)) /\ ∃ d' val', zQ4 w w' d d' 0 val' /\ zQa d' val' = storeES u force (zQa d val) := by
 refine yK9 _ u force w _ ((zQM h (Pu.refl w) u).mono ?_)
 rintro e w2 ⟨rfl, h2, hf2, hs2⟩
 refine ⟨_, _, _, rfl, Br.of (fun c => ?_) (fun c => ?_)⟩
 ·have hu := zJW c
  have e1 : uC u = 1 := by rw [uC, if_neg hu]
  have e2 : storeE u force (zQa d val) = 1 := by rw [storeE, if_neg hu]
  exact h2.left fun w' hL _ _ => ⟨⟨none, 0, 0⟩, by rw [e1, e2], by rw [storeEL, e2, if_neg (by decide)]; exact zXD.nil _ _, d, val, hL, by rw [storeES, if_neg hu]⟩
 have hu := zJM c
 obtain ⟨n, rfl, hn⟩ := zQS hu
 rw [zKL hn]
 refine (yKK h2.at_ hI hn force).mono ?_
 rintro e w3 ⟨q, rfl, hN, d', val', hL, habs⟩
 refine ⟨q, _, rfl, ?_⟩
 have LL := h2.dl.trans hL
 have hN0 : zXD w w3 q _ := hN.low h2.fr.size
 have e2 : storeE (n : Int) force (zQa d val) = storeC n force (zQa d val) := by rw [storeE, if_pos hu, zQL]
 rw [← show d'.ptr = d.ptr by unfold zQr.ptr; rw [hL.ptr]]
 refine zQW LL fun w' hL' hf _ => ⟨q, by rw [e2], ?_, d', val', hL', by rw [habs, storeES, if_pos hu, zQL]⟩
 rw [storeEL, e2, zQL]
 exact hN0.fr hf fun b hb e => by
  have h1 := h.bd.out (hN0.2 b hb)
  have h3 : d'.S = d.S := hL.ptr
  rw [show b = d'.S from e, h3, h.bd.oS] at h1; cases h1
theorem yXy (h : zQh w d 1 val) (hI : Inv (zQa d val)) {u : Nat} (hu : u < 4) :
  Calls prog 50 #[d.ptr, .int .i64 (u : Int), .pointer (some (uA d u))] w fun e w' => e = .returned (.int .i64 (leaveC u (zQa d val))) /\ ∃ d' val', zQ4 w w' d d' 1 val' /\ zQa d' val' = leaveS u (zQa d val) := by
 have no : ((zQa d val).us u).rows = false ∨ ((zQa d val).us u).emp = true -> Ending.returned (.int .i64 0) = .returned (.int .i64 (leaveC u (zQa d val))) /\ ∃ d' val', zQ4 w w d d' 1 val' /\ zQa d' val' = leaveS u (zQa d val) := fun hc =>
  ⟨by rw [leaveC, if_pos hc], d, val, zQ4.refl h, by rw [leaveS, if_pos hc]⟩
 refine yKQ _ _ _ w _ (Calls.mono (yV3 h hu) ?_)
 rintro e w1 ⟨rfl, rfl⟩
 refine ⟨_, rfl, Br.of (fun c => ?_) (fun c => ?_)⟩
 ·exact no (.inl (by simpa using c))
 have c : ((zQa d val).us u).rows = true := by simpa using c
 refine Calls.mono (zYp h hu) ?_
 rintro e w2 ⟨rfl, rfl⟩
 refine ⟨_, rfl, Br.of (fun c1 => ?_) (fun c1 => ?_)⟩
 ·exact no (.inr c1)
 have hno : ¬ (((zQa d val).us u).rows = false ∨ ((zQa d val).us u).emp = true) := by rw [c, c1]; simp
 refine Calls.mono (yKK h hI hu false) ?_
 rintro e w3 ⟨q, rfl, hN, d', val', hL, habs⟩
 exact ⟨q, _, rfl, by rw [leaveC, if_neg hno], d', val', hL, by rw [habs, leaveS, if_neg hno]⟩
end Go.Proofs.YtcihcbfcgjepfaaGreatDoor
/- Desks: right records stay right. No condition but those stated. -/
namespace Go.Proofs.YtcihcbfcgjepfaaGreatDoor
open Go.Sh Go.RowKit Tryz
theorem zZg {l : List Fld} {p : Int} {r : Rec} : zQB l p r = 0 ↔ r.v.length = l.length /\ ∀ (i : Nat) (f : Fld) (v : Val), l[i]? = some f -> r.v[i]? = some v -> zQP f p v = true := by
 constructor
 ·intro h
  refine ⟨zQ7 h, fun i f v hf hv => ?_⟩
  unfold zQB at h
  rw [if_neg (by simp [zQ7 h])] at h
  split at h
  ·next ha =>
   have := List.all_eq_true.1 ha (f, v) (List.mem_of_getElem? (i := i) (by rw [List.getElem?_zip_eq_some]; exact ⟨hf, hv⟩))
   exact this
  ·cases h
 ·rintro ⟨h1, h2⟩
  unfold zQB
  rw [if_neg (by simp [h1]), if_pos]
  refine List.all_eq_true.2 fun x hx => ?_
  obtain ⟨i, hi⟩ := List.getElem?_of_mem hx
  obtain ⟨a, b⟩ := List.getElem?_zip_eq_some.1 hi
  exact h2 i x.1 x.2 a b
theorem yVz {f : Fld} {p : Int} {v : Val} (h : (zZ9 f p v).2 = 0) : zQP f p (zZ9 f p v).1 = true := by
 cases hB : zQ0 f && zXm p
 ·rw [zZB hB] at h; simp at h
 by_cases hv : zXh v ≠ 0
 ·rw [zJk hB hv] at h; exact absurd h hv
 have hv : zXh v = 0 := by simpa using hv
 rw [zZH hB hv] at h ⊢
 have hfB : zQ0 f = true := by simp at hB; exact hB.1
 by_cases hk : v.kind = 0
 ·unfold zQJ at h ⊢
  rw [if_pos hk] at h ⊢
  by_cases hn : f.null = true
  ·rw [if_pos hn]
   unfold zQP
   rw [if_neg (by simp [hv]), if_pos hk]; exact hn
  ·rw [if_neg hn] at h; simp at h
 by_cases hk2 : v.kind ≠ (zQ3 f).kind
 ·unfold zQJ at h; rw [if_neg hk, if_pos hk2] at h; simp at h
 by_cases h4 : f.kind = 4
 ·obtain ⟨wl, wh⟩ := zKU hfB h4
  have e1 : zQJ f p v = if zX9 (zXZ (v.s.data.toList.take f.width.toNat)) p then (⟨4, 0, bs (zXZ (v.s.data.toList.take f.width.toNat))⟩, 0) else (noV, 10) := by
   unfold zQJ; rw [if_neg hk, if_neg hk2, if_pos h4]
  cases ht : zX9 (zXZ (v.s.data.toList.take f.width.toNat)) p
  ·rw [e1, ht] at h; simp at h
  rw [e1, ht, if_pos rfl]
  have hbl := zVJ (v.s.data.toList.take f.width.toNat)
  have htl := List.length_take_le f.width.toNat v.s.data.toList
  have hb2 := yVe (v.s.data.toList.take f.width.toNat)
  generalize zXZ (v.s.data.toList.take f.width.toNat) = B at *
  have hvB : zXh ⟨4, 0, bs B⟩ = 0 := by
   rw [zXT, if_neg (by dsimp only; rw [zXC]; omega)]; rfl
  unfold zQP
  rw [if_neg (by simp [hvB]), if_neg (show ¬ (4 : Int) = 0 by decide), if_neg (by omega), if_neg (by simp [h4]), if_neg (by omega), if_pos h4]
  rw [zJi, hb2, ht, zXC, decide_eq_true rfl, decide_eq_true (show ((B.length : Nat) : Int) <= f.width by omega)]; rfl
 ·unfold zQJ at h ⊢
  rw [if_neg hk, if_neg hk2, if_neg h4] at h ⊢
  cases hf : zQP f p v
  ·rw [hf] at h; simp at h
  ·simp [hf]
theorem yZ2 {f : Fld} (h : zQ0 f = true) (p : Int) : zQP f p (zQ3 f) = true := by
 unfold zQ0 at h
 simp only [Bool.and_eq_true] at h
 have hk := h.2
 unfold zKN at hk
 have vz : ∀ k : Int, okN k 0 = true -> zXh ⟨k, 0, ⟨#[]⟩⟩ = 0 := fun k h => by
  rw [zXT, if_neg (by show ¬ 2048 < 0; omega), if_pos]
  show (okN k 0 && (decide (k = 4) || decide ((0 : Nat) = 0))) = true
  rw [h]; simp
 by_cases h5 : f.kind = 5
 ·unfold zQ3 zQP
  rw [if_pos h5, if_neg (by rw [vz 2 (by decide)]; simp), if_neg (by decide), if_pos h5]; decide
 have e : zQ3 f = ⟨f.kind, 0, ⟨#[]⟩⟩ := by unfold zQ3; rw [if_neg h5]
 have hkk : f.kind = 1 ∨ f.kind = 2 ∨ f.kind = 3 ∨ f.kind = 4 := by
  by_cases h1 : f.kind = 1
  ·exact .inl h1
  ·by_cases h2 : f.kind = 2
   ·exact .inr (.inl h2)
   ·by_cases h3 : f.kind = 3
    ·exact .inr (.inr (.inl h3))
    ·by_cases h4 : f.kind = 4
     ·exact .inr (.inr (.inr h4))
     ·rw [if_neg h1, if_neg h2, if_neg h3, if_neg h4, if_neg h5] at hk
      cases hk
 have hv : zXh (zQ3 f) = 0 := by
  rw [e]
  refine vz _ ?_
  rcases hkk with h | h | h | h <;> rw [h] <;> decide
 have base : ∀ b : Bool, (if f.kind = 2 then decide (((zJE 0).length : Int) <= f.width) else if f.kind = 4 then decide (((0 : Nat) : Int) <= f.width) && decide (zXZ ([] : List UInt8) = []) && zX9 [] p else true) = b -> zQP f p (zQ3 f) = b := fun b hb => by
  unfold zQP
  rw [if_neg (by rw [hv]; simp), if_neg (by rw [e]; show ¬ f.kind = 0; omega), if_neg h5, if_neg (by rw [e]; simp)]
  rw [e]; exact hb
 refine base true ?_
 have hd : (zJE 0).length = 1 := by decide +kernel
 rcases hkk with h | h | h | h
 ·rw [if_neg (by omega), if_neg (by omega)]
 ·rw [if_pos h, hd]
  rw [if_neg (by omega), if_pos h] at hk
  simp at hk ⊢; omega
 ·rw [if_neg (by omega), if_neg (by omega)]
 ·rw [if_neg (by omega), if_pos h]
  rw [if_neg (by omega), if_neg (by omega), if_neg (by omega), if_pos h] at hk
  simp at hk
  have : decide (((0 : Nat) : Int) <= f.width) = true := by simp; omega
  rw [this]; rfl
theorem yQq {l : List Fld} (h : l.all zQ0 = true) (p : Int) : zQB l p ⟨false, l.map zQ3⟩ = 0 := by
 refine zZg.2 ⟨by simp, fun i f v hf hv => ?_⟩
 simp only [List.getElem?_map, hf, Option.map_some, Option.some.injEq] at hv
 subst hv
 exact yZ2 (List.all_eq_true.1 h f (List.mem_of_getElem? hf)) p
theorem yZb {l : List Fld} {p : Int} {r : Rec} (h : zQB l p r = 0) (g : Bool) : zQB l p (zZD g r) = 0 := h
theorem yWp {l : List Fld} {p : Int} {r : Rec} (h : zQB l p r = 0) {i : Nat} {v : Val} (hv : ∀ f, l[i]? = some f -> zQP f p v = true) : zQB l p (setVal i v r) = 0 := by
 obtain ⟨h1, h2⟩ := zZg.1 h
 refine zZg.2 ⟨by simp [setVal, h1], fun j f x hf hx => ?_⟩
 replace hx : (r.v.set i v)[j]? = some x := hx
 rw [List.getElem?_set] at hx
 split at hx
 ·next e =>
  subst e
  split at hx
  ·cases hx; exact hv f hf
  ·cases hx
 ·exact h2 j f x hf hx
theorem yJv : ∀ {a b c : List Val} {i : Nat} {z : Val}, (zZQ a b c)[i]? = some z -> c[i]? = some z ∨ b[i]? = some z
 | [], b, c, i, z, h => by cases b <;> cases c <;> exact .inl h
 | x :: a, [], c, i, z, h => by cases c <;> exact .inl h
 | x :: a, y :: b, [], i, z, h => .inl h
 | x :: a, y :: b, w :: c, 0, z, h => by
  simp only [zZQ, List.getElem?_cons_zero, Option.some.injEq] at h ⊢
  by_cases e : x = y
  ·rw [if_pos e] at h; exact .inl h
  ·rw [if_neg e] at h; exact .inr h
 | x :: a, y :: b, w :: c, i + 1, z, h => by
  simp only [zZQ, List.getElem?_cons_succ] at h ⊢
  exact yJv h
theorem yQ0 {l : List Fld} {p : Int} {c : Rec × Rec} {r : Rec} (h2 : zQB l p c.2 = 0) (h : zQB l p r = 0) : zQB l p (zZM c r) = 0 := by
 obtain ⟨a1, a2⟩ := zZg.1 h
 obtain ⟨b1, b2⟩ := zZg.1 h2
 refine zZg.2 ⟨by show (zZQ c.1.v c.2.v r.v).length = _; rw [zKP, a1], fun i f v hf hv => ?_⟩
 rcases yJv hv with hv | hv
 ·exact a2 i f v hf hv
 ·exact b2 i f v hf hv
end Go.Proofs.YtcihcbfcgjepfaaGreatDoor
