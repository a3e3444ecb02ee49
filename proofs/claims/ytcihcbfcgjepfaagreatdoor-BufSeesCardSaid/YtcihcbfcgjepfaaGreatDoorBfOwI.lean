import Derived.Test.YtcihcbfcgjepfaaGreatDoorBfOwH
import Derived.Test.YtcihcbfcgjepfaaGreatDoorBfPrB
import Derived.Test.YtcihcbfcgjepfaaGreatDoorBfOwG
import Derived.Test.YtcihcbfcgjepfaaGreatDoorBfOwB
import Derived.Test.YtcihcbfcgjepfaaGreatDoorShTwenty
import Derived.Test.YtcihcbfcgjepfaaGreatDoorBfOwC
import Derived.Test.YtcihcbfcgjepfaaGreatDoorBfOwF
import Derived.Lib.MinMax
/- Desks: the reference's tables copied; a new desk of the reference. No condition but those stated. -/
set_option maxRecDepth 100000
set_option linter.unusedVariables false
set_option linter.unusedSimpArgs false
namespace Go.Proofs.YtcihcbfcgjepfaaGreatDoor
open Go.Sh Go.RowKit Tryz
variable {w w' : World} {d d' : zQr} {val : Nat -> List Val}
theorem zXp.lt : ∀ {hs : List zQy} {rs : List Rec}, zXp w hs rs -> ∀ b ∈ vB hs, b < w.heap.size
 | [], [], _, b, hb => by simp [vB] at hb
 | x :: hs, y :: rs, ⟨⟨_, h1⟩, h2⟩, b, hb => by
  rw [zXd, List.mem_append] at hb
  rcases hb with hb | hb
  ·exact h1.lt b hb
  ·exact zXp.lt h2 b hb
theorem zX3.fr {B : Nat -> Prop} {w0 : World} {q : SV} {hs : List zQy} {rs : List Rec} (h : zX3 w0 w q hs rs) (hf : Fr B w w') (hn : ∀ b, w0.heap.size <= b -> ¬ B b) : zX3 w0 w' q hs rs :=
 ⟨h.row.fr hf fun b hb => hn b (h.new b hb), h.new, h.recs.fr hf fun b hb => hn b (h.vnew b hb).1, h.vnew, h.nd⟩
theorem zX3.push {w0 w1 w5 : World} {q s' : SV} {hs : List zQy} {rs : List Rec} {r : Rec} {b : Nat} (hq : zX3 w0 w1 q hs rs) (hp : Pu w1 w5) (hz : w0.heap.size <= w1.heap.size) (hV : zZO w1 w5 s' r.v)
  (hb5 : w5.heap[b]? = some (.cells #[.bool r.gone, .slice s'.a s'.len s'.cap] 77)) (hlen : rs.length <= 100000) :
  ∃ (q' : SV) (w6 : World), (Builtin.append_ #[23, 23] 23 #[.slice q.a q.len q.cap, .slice (some ⟨b, 0, none⟩) 1 1]).run prog w5 = .ok (.slice q'.a q'.len q'.cap) w6 /\ zX3 w0 w6 q' (hs ++ [⟨r.gone, s'⟩]) (rs ++ [r]) /\ Fr (· ∈ zQb q) w5 w6 := by
 have hq5 := hq.pu hp
 have hql := hq.row.len zQk (by decide)
 have hhl := hq.recs.len
 have z5 := hp.size
 have hlt5 : ∀ b ∈ zQb s', b < w5.heap.size := hV.1.lt
 have hqlt : ∀ b ∈ zQb q, b < w1.heap.size := hq.row.lt
 have hvlt : ∀ b ∈ vB hs, b < w1.heap.size := hq.recs.lt
 obtain ⟨q', w6, hra, hrow6, hf6, hblk6, _⟩ := zQ2 (P := prog) (ty := 23) yYn zJh rfl (by omega) hq5.row (A := some ⟨b, 0, none⟩) (m := 1) (c := 1) (news := [.bool r.gone, .slice s'.a s'.len s'.cap]) rfl (fun j x hx => ⟨_, rfl, by rw [cl hb5]; simpa using hx⟩) (fun x hx => by simp at hx; rcases hx with rfl | rfl <;> rfl) (by show (q.len + 1) * (32 + 1) <= _; omega)
 refine ⟨q', w6, hra, ⟨?_, fun b hb => ?_, ?_, fun b hb => ?_, ?_⟩, hf6⟩
 ·rw [List.flatMap_append, List.flatMap_singleton]; exact hrow6
 ·rcases hblk6 b hb with h1 | h1
  ·exact hq.new b h1
  ·omega
 ·refine ((hq5.recs).fr hf6 fun b hb => (hq.vnew b hb).2).push rfl (hV.1.fr hf6 fun b hb hx => ?_)
  have := hV.2 b hb
  have := hqlt b hx
  omega
 ·rw [zVH, List.mem_append] at hb
  have hq' : ∀ b, b ∈ zQb q' -> b ∈ zQb q ∨ w5.heap.size <= b := hblk6
  rcases hb with hb | hb
  ·have h1 := hq.vnew b hb
   refine ⟨h1.1, fun hx => ?_⟩
   rcases hq' b hx with h2 | h2
   ·exact h1.2 h2
   ·have := hvlt b hb; omega
  ·have hb : b ∈ zQb s' := hb
   have h1 := hV.2 b hb
   have h3 := hlt5 b hb
   refine ⟨by omega, fun hx => ?_⟩
   rcases hq' b hx with h2 | h2
   ·have := hqlt b h2; omega
   ·omega
 ·rw [zVH]
  refine List.nodup_append.2 ⟨hq.nd, zWE _, fun a ha b hb e => ?_⟩
  subst e
  have hb : a ∈ zQb s' := hb
  have h1 := hV.2 a hb
  have := hvlt a ha
  omega
theorem zVv {w0 w : World} {R : Rt} {t : Tbl} {f r qf : SV} {r1 r2 r3 : Nat} (hp : Pu w0 w) (hr : zZs w0 r t.recs) (b1 : w.heap[r1]? = some (.cells #[.int .i64 t.page, .slice f.a f.len f.cap, .slice r.a r.len r.cap] 25)) (b2 : w.heap[r2]? = some (.cells #[.int .i64 0, .slice none 0 0, .slice none 0 0] 25))
  (b3 : w.heap[r3]? = some (.cells #[.int .i64 t.page, .slice qf.a qf.len qf.cap, .slice none 0 0] 25)) (n13 : r1 ≠ r3) (n23 : r2 ≠ r3) (z2 : w0.heap.size <= r2) (z3 : w0.heap.size <= r3) (hrl : t.recs.length <= 100000) (hv : ∀ x ∈ t.recs, x.v.length <= 1000000)
  (hR : ∀ w' qr hs, zX3 w w' qr hs t.recs -> Fr (fun b => b = r2 ∨ b = r3) w w' -> R (.returned (zYv t qf qr)) w') : yVv R (some ⟨r1, 0, none⟩) (some ⟨r2, 0, none⟩) (some ⟨r3, 0, none⟩) 0 [] w := by
 have hlen := hr.len
 have l3 := zQA b3
 have l2 := zQA b2
 refine zQz t.recs.length (fun k s w' => s = (k : Int) /\ ∃ q hs, w'.heap[r3]? = some (.cells #[.int .i64 t.page, .slice qf.a qf.len qf.cap, .slice q.a q.len q.cap] 25) /\ zX3 w w' q hs (t.recs.take k) /\ Fr (· = r3) w w')
  ⟨rfl, ⟨none, 0, 0⟩, [], b3, ⟨zQj.nil _ _ _, by simp [zQb], trivial, by simp [vB], by simp [vB]⟩, Fr.refl _ _⟩ ?_
 rintro k J s w1 hk ⟨hs, q, hs1, c3, hq, hf⟩ hJ
 obtain rfl : s = (k : Int) := hs
 have hp1 : Pu w0 w1 := hp.andNew hf fun i hi => by rw [show i = r3 from hi]; exact z3
 have c1 := hf.blk b1 n13
 have htl := List.length_take_le k t.recs
 refine ⟨r, cl c1 2, Br.of (fun d1 => zQf fun w2 hp2 _ => ?_) (fun d1 => ?_)⟩
 ·have hk2 : k < t.recs.length := by have := zQn d1; omega
  obtain ⟨x, hx⟩ := zXg hk2
  obtain ⟨a, s0, ha, g0, g1, hV⟩ := (hr.pu (hp1.trans hp2)).get k x hx
  have e1 := hp2.blk c1
  have e3 := hp2.blk c3
  refine ⟨fun y => Pu w2 y, Pu.refl _, q, fun y hy => cl (hy.blk e3) 2, r, fun y hy => cl (hy.blk e1) 2, a, ha, by omega, by omega, x.gone, fun y hy => hy.cell (by rw [zQL]; exact g0), s0, fun y hy => hy.cell (by rw [zQL]; exact g1), (zKn hV (hv x (List.mem_of_getElem? hx))).mono ?_⟩
  rintro e w4 ⟨s', rfl, hs', hp4⟩
  refine ⟨_, s', rfl, hp4, alB fun w5 hp5 hb5 => ⟨hp4.trans hp5, ?_⟩⟩
  have hp15 := (hp2.trans hp4).trans hp5
  obtain ⟨q', w6, hra, hN6, hf6⟩ := hq.push hp15 hf.size ((hs'.pu hp5).low hp2.size) hb5 (by omega)
  refine ⟨q', w6, hra, ?_⟩
  have nq : ¬ r3 ∈ zQb q := fun e => by have := hq.new _ e; omega
  rw [zQ9, zQe]
  refine zQv (hf6.blk (hp15.blk c3) nq) (by show 0 + 2 < 3; omega) fun w7 hw7 hb7 => ?_
  have hf7 : Fr (· = r3) w6 w7 := by rw [hw7]; exact Fr.cell w6 _ _ _
  rw [zQc (by omega) (by omega)]
  refine hJ _ _ hk2 ⟨by omega, q', hs1 ++ [⟨x.gone, s'⟩], hb7, ?_, ((hf.trans (Fr.pu hp15 : Fr (· = r3) w1 w5) fun i hi _ => hi).trans hf6 fun i hi hlt => ?_).trans hf7 fun i hi _ => hi⟩
  ·rw [zQO hx]
   exact hN6.fr hf7 fun b hb e => by have e : b = r3 := e; omega
  ·have := hq.new i hi; omega
 ·have hk2 : k = t.recs.length := by have := zQg d1; omega
  subst hk2
  rw [List.take_length] at hq
  have c2 := hf.blk b2 n23
  refine ⟨_, cl c3 0, qf, cl c3 1, q, cl c3 2, zQl c2 bs25.symm rfl rfl fun w4 hb4 hf4 _ => ⟨_, cl hb4 0, qf, cl hb4 1, q, cl hb4 2, ?_⟩⟩
  exact hR w4 q hs1 (hq.fr hf4 fun b hb e => by have e : b = r2 := e; omega) ((hf.mono (B' := fun b => b = r2 ∨ b = r3) fun i hi _ => .inr hi).trans hf4 fun i hi _ => .inl hi)
theorem cloneF_row {s : SV} {l : List Fld} (h : zXI w s l) (hb : l.length <= 1000000) : ∃ (q : SV) (w' : World), (Builtin.append_ #[22, 22] 22 #[.slice none 0 0, .slice s.a s.len s.cap]).run prog w = .ok (.slice q.a q.len q.cap) w' /\ zQj w' 38 4 q (l.flatMap zKS) /\ (∀ b ∈ zQb q, w.heap.size <= b) /\ Pu w w' := by
 have fl : ∀ f : Fld, (zKS f).length = 4 := fun f => rfl
 have hlen := h.len
 obtain ⟨t, w2, hr, hrow, hf, hblk, _⟩ := zQ2 (P := prog) (ty := 22) bu22 yWn rfl (by omega) (zQj.nil w 38 4) (A := s.a) (m := s.len) (c := s.cap) (news := l.flatMap zKS) (by rw [zQu fl, hlen]) (fun j x hx => by
  have hj : j < l.length * 4 := by have := (List.getElem?_eq_some_iff.1 hx).1; rwa [zQu fl] at this
  obtain ⟨v, hv⟩ := zXg (l := l) (k := j / 4) (by omega)
  obtain ⟨a, ha, _, _, _, _, c0, c1, c2, c3⟩ := zZp h hv
  have h2 := zXP fl hv (j % 4) (by omega)
  rw [show j / 4 * 4 + j % 4 = j by omega, hx] at h2
  refine ⟨a, ha, ?_⟩
  have e : a.add j = (a.add (j / 4 * 4)).add (j % 4) := by
   rw [Addr.add_add]; congr 1; omega
  rw [e]
  rcases (by omega : j % 4 = 0 ∨ j % 4 = 1 ∨ j % 4 = 2 ∨ j % 4 = 3) with e2 | e2 | e2 | e2 <;> rw [e2] at h2 ⊢ <;> simp [zKS] at h2 <;> subst h2 <;> assumption) (fun x hx => by
   obtain ⟨y, _, hy⟩ := List.mem_flatMap.1 hx
   simp [zKS] at hy
   rcases hy with rfl | rfl | rfl | rfl <;> rfl) (by show (0 + s.len) * (40 + 1) <= _; omega)
 rw [List.nil_append] at hrow
 refine ⟨t, w2, hr, hrow, fun b hb => ?_, (Pu.refl w).andNew hf fun b hb => by simp [zQb] at hb⟩
 rcases hblk b hb with h | h
 ·simp [zQb] at h
 ·exact h
theorem yXd {t : Tbl} {f r : SV} (hf : zXI w f t.fields) (hr : zZs w r t.recs) (hfl : t.fields.length <= 1000000) (hrl : t.recs.length <= 100000) (hv : ∀ x ∈ t.recs, x.v.length <= 1000000) :
  Calls prog 80 #[zYv t f r] w fun e w' => ∃ qf qr hs, e = .returned (zYv t qf qr) /\ zQj w' 38 4 qf (t.fields.flatMap zKS) /\ (∀ b ∈ zQb qf, w.heap.size <= b) /\ zX3 w w' qr hs t.recs /\ Pu w w' := by
 refine yKP _ _ _ w _ (alB fun w1 hp1 hb1 => alB fun w2 hp2 hb2 => zQf fun w3 hp3 _ => ?_)
 have hp03 := (hp1.trans hp2).trans hp3
 have c1 := hp3.blk (hp2.blk hb1)
 have c2 := hp3.blk hb2
 have l1 : w.heap.size < w1.heap.size := zQA hb1
 have l2 : w1.heap.size < w2.heap.size := zQA hb2
 have z3 := hp3.size
 refine ⟨fun y => Pu w3 y, Pu.refl _, _, fun y hy => cl0 (hy.blk c1), f, fun y hy => cl (hy.blk c1) 1, ?_, ?_⟩
 ·obtain ⟨qf, w4, hra, hrow, hnew, hp4⟩ := cloneF_row (hf.pu hp03) hfl
  refine ⟨qf, w4, hra, hp4, alB fun w5 hp5 hb5 => ⟨hp4.trans hp5, zQl hb5 bs25.symm rfl rfl fun w6 hb6 hf6 _ => ?_⟩⟩
  have hp45 : Pu w4 w6 := hp5.andNew hf6 fun i hi => by rw [show i = w4.heap.size from hi]; exact Nat.le_refl _
  have hp36 := hp4.trans hp45
  have z4 := hp4.size
  refine zVv (hp03.trans hp36) hr (hp36.blk c1) (hp36.blk c2) hb6 (by omega) (by omega) (by omega) (by omega) hrl hv fun w' qr hs hN hF => ?_
  refine ⟨qf, qr, hs, rfl, (hrow.pu hp45).fr hF fun b hb e => ?_, fun b hb => ?_, ⟨hN.row, fun b hb => ?_, hN.recs, fun b hb => ⟨?_, (hN.vnew b hb).2⟩, hN.nd⟩, (hp03.trans hp36).andNew hF fun i hi => ?_⟩
  ·have h1 := hnew b hb; have h2 := hrow.lt b hb; omega
  ·have h1 := hnew b hb; omega
  ·have := hN.new b hb; have := (hp03.trans hp36).size; omega
  ·have := (hN.vnew b hb).1; have := (hp03.trans hp36).size; omega
  ·omega
 ·refine alB fun w5 hp5 hb5 => ⟨hp5, ?_⟩
  obtain ⟨qf, w4, hra, hrow, hnew, hp4⟩ := cloneF_row (hf.pu (hp03.trans hp5)) hfl
  refine ⟨qf, w4, hra, hp5.trans hp4, zQl (hp4.blk hb5) bs25.symm rfl rfl fun w6 hb6 hf6 _ => ?_⟩
  have l5 : w3.heap.size < w5.heap.size := zQA hb5
  have hp36 : Pu w3 w6 := (hp5.trans hp4).andNew hf6 fun i hi => by rw [show i = w3.heap.size from hi]; exact Nat.le_refl _
  have z4 := hp4.size
  refine zVv (hp03.trans hp36) hr (hp36.blk c1) (hp36.blk c2) hb6 (by omega) (by omega) (by omega) (by omega) hrl hv fun w' qr hs hN hF => ?_
  refine ⟨qf, qr, hs, rfl, (hrow.fr hf6 fun b hb e => ?_).fr hF fun b hb e => ?_, fun b hb => ?_, ⟨hN.row, fun b hb => ?_, hN.recs, fun b hb => ⟨?_, (hN.vnew b hb).2⟩, hN.nd⟩, (hp03.trans hp36).andNew hF fun i hi => ?_⟩
  ·have h1 := hnew b hb; have e : b = w3.heap.size := e; omega
  ·have h1 := hnew b hb; omega
  ·have h1 := hnew b hb; omega
  ·have := hN.new b hb; have := (hp03.trans hp36).size; omega
  ·have := (hN.vnew b hb).1; have := (hp03.trans hp36).size; omega
  ·omega
def zJa (S L : Nat) (t : Tbl) (fs rs : SV) (hs : List zQy) : zQr where
 sd := true
 o b := if b = S then some .S else if b = L then some .L else if b ∈ zQb fs then some .F else if b ∈ zQb rs then some .R else if b ∈ vB hs then some .V else none
 S := S
 L := L
 C _ := 0
 page := t.page
 flds := t.fields
 fs := fs
 rs := rs
 rh := hs
 mode _ := 0
 at_ _ := 0
 asv _ := ⟨none, 0, 0⟩
 ah _ := []
 cs _ := ⟨none, 0, 0⟩
 ch _ := []
 lk _ := none
theorem xQW {t : Tbl} {f r : SV} (h : zK1 w t f r) : Calls prog 61 #[zYv t f r] w fun e w' => Pu w w' /\ (zXt t ≠ 0 -> e = .returned (.tuple #[.pointer none, .int .i64 (zXt t)])) /\
  (zXt t = 0 -> ∃ d val, e = .returned (.tuple #[d.ptr, .int .i64 0]) /\ zQs w' d val /\ zQa d val = Dsk.new t /\ ∀ b, d.o b ≠ none -> w.heap.size <= b) := by
 refine yJX _ _ _ w _ (alB fun w1 hp1 hb1 => ?_)
 refine ⟨_, cl hb1 0, f, cl hb1 1, r, cl hb1 2, (yQh (h.pu hp1)).mono ?_⟩
 rintro e w2 ⟨rfl, hp2⟩
 have hp02 := hp1.trans hp2
 refine ⟨_, rfl, Br.of (fun c => ?_) (fun c => ?_)⟩
 ·have c := zQC c
  exact ⟨hp02, fun _ => rfl, fun e => absurd e c⟩
 have c := zQw c
 have hI := zWs c
 have hb2 := hp2.blk hb1
 have f16 : t.fields.length <= 16 := hI.f16
 have r300 : t.recs.length <= 300 := hI.r300
 refine ⟨_, cl hb2 0, f, cl hb2 1, r, cl hb2 2, (yXd (h.fields.pu hp02) (zZs.of (h.recs.pu hp02)) (by omega) (by omega) fun x hx => by have h1 := zQ7 (hI.gr x hx); have e : (Dsk.new t).flds.length = t.fields.length := rfl; omega).mono ?_⟩
 rintro e w4 ⟨qf, qr, hs, rfl, hqf, hqn, hN, hp4⟩
 refine ⟨_, qf, qr, rfl, zX7 fun w5 hw5 => alB fun w6 hp6 hb6 => ?_⟩
 have hp5 : Pu w4 w5 := by rw [hw5]; exact Pu.alloc w4 _
 have s5 : w5.heap.size = w4.heap.size + 1 := by rw [hw5]; simp
 have hm5 : zQ8 w5 zXu zXu w4.heap.size ([] : List (Int × Int)) := by rw [hw5]; exact zQ8.new w4 _ _
 have hp46 := hp5.trans hp6
 have z02 := hp02.size
 have z4 := hp4.size
 have l6 : w5.heap.size < w6.heap.size := zQA hb6
 have zf : ∀ b ∈ zQb qf, w2.heap.size <= b /\ b < w4.heap.size := fun b hb => ⟨hqn b hb, hqf.lt b hb⟩
 have zr : ∀ b ∈ zQb qr, w2.heap.size <= b /\ b < w4.heap.size := fun b hb => ⟨hN.new b hb, hN.row.lt b hb⟩
 have zv : ∀ b ∈ vB hs, w2.heap.size <= b /\ b < w4.heap.size := fun b hb => ⟨(hN.vnew b hb).1, hN.recs.lt b hb⟩
 have apR : ∀ b ∈ zQb qr, b ∉ zQb qf := zZA hN.row hqf (by decide)
 have apV : ∀ b ∈ vB hs, b ∉ zQb qf := fun b hb => by
  obtain ⟨x, hx, hxb⟩ := List.mem_flatMap.1 hb
  exact zZA (valOf_row hN.recs hN.nd x hx) hqf (by decide) b hxb
 have o0 : ∀ {b : Nat}, b < w4.heap.size -> (zJa w5.heap.size w4.heap.size t qf qr hs).o b = if b ∈ zQb qf then some .F else if b ∈ zQb qr then some .R else if b ∈ vB hs then some .V else none := fun {b} hb => by
  show (if b = w5.heap.size then _ else if b = w4.heap.size then _ else _) = _
  rw [if_neg (by omega), if_neg (by omega)]
 have own : ∀ b, (zJa w5.heap.size w4.heap.size t qf qr hs).o b ≠ none -> w2.heap.size <= b /\ b < w6.heap.size := fun b hb => by
  have hb : (if b = w5.heap.size then some zX4.S else if b = w4.heap.size then some .L else if b ∈ zQb qf then some .F else if b ∈ zQb qr then some .R else if b ∈ vB hs then some .V else none) ≠ none := hb
  by_cases e1 : b = w5.heap.size
  ·omega
  rw [if_neg e1] at hb
  by_cases e2 : b = w4.heap.size
  ·omega
  rw [if_neg e2] at hb
  by_cases e4 : b ∈ zQb qf
  ·have := zf b e4; omega
  rw [if_neg e4] at hb
  by_cases e5 : b ∈ zQb qr
  ·have := zr b e5; omega
  rw [if_neg e5] at hb
  by_cases e6 : b ∈ vB hs
  ·have := zv b e6; omega
  rw [if_neg e6] at hb; exact absurd rfl hb
 have eAll : zXf (zJa w5.heap.size w4.heap.size t qf qr hs) = hs := by simp [zXf, uH, chH, zJa]
 have hN6 := hN.pu hp46
 refine ⟨(hp02.trans hp4).trans hp46, fun e => absurd c e, fun _ => ⟨zJa w5.heap.size w4.heap.size t qf qr hs, zWK hs t.recs, rfl, ⟨hb6, ?_, rfl⟩, ?_, fun b hb => by have := own b hb; omega⟩⟩
 ·refine ⟨hqf.pu hp46, hN6.row, fun u hu => zQj.nil _ _ _, fun e => (by cases e), fun _ u hu => zQj.nil _ _ _, ⟨[], hm5.pu hp6, fun k => rfl⟩, fun x hx => ?_, fun v hv => ⟨rfl, rfl⟩, by rw [eAll]; exact hN.nd, ?_, ?_, fun e => (by cases e), fun _ u hu b hb => by simp [zJa, zQb] at hb, fun b hb => ?_, fun b hb => ?_, fun u hu b hb => by simp [zJa, zQb] at hb, fun b hb => ?_, fun b hb => (own b hb).2⟩
  ·rw [eAll] at hx; exact valOf_row hN6.recs hN.nd x hx
  ·show (if w5.heap.size = w5.heap.size then _ else _) = _; rw [if_pos rfl]
  ·show (if w4.heap.size = w5.heap.size then _ else if w4.heap.size = w4.heap.size then _ else _) = _; rw [if_neg (by omega), if_pos rfl]
  ·replace hb : b ∈ zQb qf := hb
   rw [o0 (zf b hb).2, if_pos hb]
  ·replace hb : b ∈ zQb qr := hb
   rw [o0 (zr b hb).2, if_neg (apR b hb), if_pos hb]
  ·rw [eAll] at hb
   rw [o0 (zv b hb).2, if_neg (apV b hb), if_neg (hN.vnew b hb).2, if_pos hb]
 ·have e := zKY hN.recs hN.nd
  simp only [zQa, zJa, Dsk.new, e]
  rfl
theorem zQs.rdR (h : zQs w d val) (hI : Inv (zQa d val)) : zZs w d.rs (zQa d val).recs := by
 refine ⟨by rw [h.rs_len]; simp [zQa], fun i r hr => ?_⟩
 have hr : (d.rh.map (toR val))[i]? = some r := hr
 rw [List.getElem?_map] at hr
 obtain ⟨x, hx, rfl⟩ := Option.map_eq_some_iff.1 hr
 obtain ⟨a, ha, _, h0⟩ := h.bd.rw_.elem zQk hx (o := 0) rfl
 obtain ⟨a1, ha1, _, h1⟩ := h.bd.rw_.elem zQk hx (o := 1) rfl
 rw [ha] at ha1; cases ha1
 exact ⟨a, x.s, ha, h0, h1, (h.read hI (zQK (List.mem_of_getElem? hx))).1⟩
theorem yQT (h : zQs w d val) (hI : Inv (zQa d val)) :
  Calls prog 27 #[d.ptr] w fun e w' => ∃ f r : SV, e = .returned (zYv (zQa d val).tbl f r) /\ RdT w' (zQa d val).tbl f r /\ Pu w w' := by
 refine yWY _ w _ (alB fun w1 hp1 hb1 => ?_)
 have h1 := h.pu hp1
 have hr3 := hI.r300
 have hf16 : d.flds.length <= 16 := hI.f16
 have hv : ∀ r ∈ (zQa d val).recs, r.v.length <= 1000000 := fun r hr => by have h1 := zQ7 (hI.gr r hr); have e : (zQa d val).flds.length = d.flds.length := rfl; omega
 refine ⟨d.page, by rw [yQM]; exact h1.page, d.fs, h1.flds, d.rs, h1.recs, (yXd (t := (zQa d val).tbl) (h1.fld hI.vf) (h1.rdR hI) (by show d.flds.length <= _; omega) (by show (zQa d val).recs.length <= _; omega) hv).mono ?_⟩
 rintro e w3 ⟨qf, qr, hs, rfl, hqf, hqn, hN, hp3⟩
 have l1 : w.heap.size < w1.heap.size := zQA hb1
 refine ⟨_, qf, qr, rfl, zQl (hp3.blk hb1) bs25.symm rfl rfl fun w4 hb4 hf4 _ => ⟨_, cl hb4 0, qf, cl hb4 1, qr, cl hb4 2, qf, qr, rfl, ⟨?_, ?_⟩, (hp1.trans hp3).andNew hf4 fun i hi => by rw [show i = w.heap.size from hi]; exact Nat.le_refl _⟩⟩
 ·exact yJ4 (hqf.fr hf4 fun b hb e => by have := hqn b hb; have e : b = w.heap.size := e; omega) (by show d.flds.length <= _; omega)
 ·have hN4 := hN.fr hf4 fun b hb e => by have e : b = w.heap.size := e; omega
  exact yJV hN4.row hN4.recs hv
end Go.Proofs.YtcihcbfcgjepfaaGreatDoor
/- Desks: Old of the program; what tells whether tables and numbers are equal. No condition but those stated. -/
namespace Go.Proofs.YtcihcbfcgjepfaaGreatDoor
open Go.Sh Go.RowKit Tryz
variable {w w' : World} {d d' : zQr} {val : Nat -> List Val}
theorem old_c (h : zQh w d 0 val) (hI : Inv (zQa d val)) (u k : Int) (field : ByteArray) :
  Calls prog 68 #[d.ptr, .int .i64 u, .int .i64 k, .string field] w fun e w' => e = .returned (.tuple #[zZc (oldR u k field (zQa d val)).1, .int .i64 (oldR u k field (zQa d val)).2]) /\ zQ4 w w' d d 0 val := by
 refine yKt _ u k field w _ (alB fun w1 hp1 hb1 => (zQM h hp1 u).mono ?_)
 rintro e w2 ⟨rfl, h2, hf2, hs2⟩
 have z1 := hp1.size
 have lr : w.heap.size < w1.heap.size := zQA hb1
 have ho : d.o w.heap.size = none := h.bd.out (Nat.le_refl _)
 have nS : ¬ w.heap.size = d.S := fun e => by rw [e, h.bd.oS] at ho; cases ho
 have hb2 := hf2.blk hb1 nS
 refine ⟨_, _, _, rfl, Br.of (fun c => ?_) (fun c => ?_)⟩
 ·have hu := zJW c
  have e1 : uC u = 1 := by rw [uC, if_neg hu]
  have e2 : oldR u k field (zQa d val) = (noV, 1) := by rw [oldR, if_pos hu]
  exact zWF h (Nat.le_refl _) h2 rfl hb2 noV (uC u) (by rw [e2, e1])
 have hu := zJM c
 obtain ⟨n, rfl, hn⟩ := zQS hu
 rw [zKL hn]
 refine (yW7 h2.at_ hn k (by have := hI.ah hn; omega) (by have := hI.rh; omega)).mono ?_
 rintro e w5 ⟨rfl, hp5⟩
 refine ⟨_, _, _, rfl, alB fun w6 hp6 hb6 => zQl hb6 yQw.symm rfl rfl fun w7 hb7 hf7 _ => ?_⟩
 have hp7 : Pu w2 w7 := (hp5.trans hp6).andNew hf7 fun i hi => by rw [show i = w5.heap.size from hi]; exact hp5.size
 have h7 := h2.pu hp7
 have l6 : w5.heap.size < w6.heap.size := zQA hb6
 have z7 := hf7.size
 have z5 := hp5.size
 refine ⟨some (d.C n), h7.at_.uCh hn, _, (chG (d.ch n) k).1.s, _, (chG (d.ch n) k).2.s, _, w7, yQB (h7.at_.mp hn) k, alB fun w9 hp9 hb9 => zQl hb9 yJC.symm rfl rfl fun w11 hb11 hf11 _ => ?_⟩
 have hp711 : Pu w7 w11 := hp9.andNew hf11 fun i hi => by rw [show i = w7.heap.size from hi]; exact Nat.le_refl _
 have h11 := h7.pu hp711
 have hb7' := hp711.blk hb7
 have eO : oldR (n : Int) k field (zQa d val) = valueR (zQa d val) (oldRec (zQa d val) n k) field := by rw [oldR, if_neg (by simp [hu]), zQL]
 have es : seenR (zQa d val) n k = (zXn d n k).map (toR val) := (zJH d val n k).symm
 -- the end, with the record that is looked at
 have fin : ∀ {w12 : World} {g : Bool} {s : SV} {l : List Val}, zYW w w12 d val -> Pu w2 w12 -> ((zXn d n k).isSome = true -> RdV w12 s l /\ l.length = d.flds.length) -> oldRec (zQa d val) n k = (if (zXn d n k).isSome then some ⟨g, l⟩ else none) -> w12.heap[w5.heap.size]? = some (.cells #[.bool g, .slice s.a s.len s.cap] 77) ->
   ∃ b63_0 : Bool, w12.cell? ((⟨w5.heap.size, 0, none⟩ : Addr).add 0) = some (.bool b63_0) /\ ∃ l63_1 : SV, w12.cell? ((⟨w5.heap.size, 0, none⟩ : Addr).add 1) = some (.slice l63_1.a l63_1.len l63_1.cap) /\
   Calls prog 56 #[d.ptr, .agg #[.bool b63_0, .slice l63_1.a l63_1.len l63_1.cap], .bool (zXn d n k).isSome, .string field] w12 fun e w13 => ∃ n66_0_0 : Int, ∃ n66_0_1 : Int, ∃ s66_0_2 : ByteArray, ∃ n66_1 : Int, e = .returned (.tuple #[.agg #[.int .i64 n66_0_0, .int .i64 n66_0_1, .string s66_0_2], .int .i64 n66_1]) /\
   stA prog 28 (⟨w.heap.size, 0, none⟩ : Addr) #[.int .i64 n66_0_0, .int .i64 n66_0_1, .string s66_0_2] w13 fun w14 => zQd prog [zXw d] w14 fun w15 => ∃ nR0_0 : Int, w15.cell? ((⟨w.heap.size, 0, none⟩ : Addr).add 0) = some (.int .i64 nR0_0) /\ ∃ nR0_1 : Int, w15.cell? ((⟨w.heap.size, 0, none⟩ : Addr).add 1) = some (.int .i64 nR0_1) /\
   ∃ sR0_2 : ByteArray, w15.cell? ((⟨w.heap.size, 0, none⟩ : Addr).add 2) = some (.string sR0_2) /\ (Ending.returned (.tuple #[.agg #[.int .i64 nR0_0, .int .i64 nR0_1, .string sR0_2], .int .i64 n66_1]) = .returned (.tuple #[zZc (oldR (n : Int) k field (zQa d val)).1, .int .i64 (oldR (n : Int) k field (zQa d val)).2]) /\ zQ4 w w15 d d 0 val) := fun {w12 g s l} h12 hp12 hs heq hb12 => by
  refine ⟨g, cl hb12 0, s, cl hb12 1, (yQA h12.at_ hI.vf (g := g) (b := (zXn d n k).isSome) (s := s) (l := l) hs field).mono ?_⟩
  rintro e w13 ⟨rfl, hp13⟩
  refine ⟨_, _, _, _, rfl, ?_⟩
  exact zWF h (Nat.le_refl _) (h12.pu hp13) rfl ((hp12.trans hp13).blk hb2) _ _ (by rw [eO, heq])
 refine Br.of (fun c1 => ?_) (fun c1 => Br.of (fun c2 => Br.of (fun c3 => ?_) (fun c3 => ?_)) (fun c2 => ?_))
 ·obtain ⟨cc, hcc⟩ := Option.isSome_iff_exists.1 c1
  have eG : chG (d.ch n) k = cc := by rw [chG, hcc]; rfl
  rw [eG] at hb11
  have mc := zJc hn (AL.get_mem hcc)
  have hkr := (hI.gc n hn (toC val (k, cc)) (List.mem_map.2 ⟨_, AL.get_mem hcc, rfl⟩)).2
  have hkr : 1 <= k := hkr.1
  refine ⟨_, cl hb11 0, cc.1.s, cl hb11 1, zQl hb7' yQw.symm rfl rfl fun w12 hb12 hf12 _ => ?_⟩
  have hp212 : Pu w2 w12 := (hp7.trans hp711).andNew hf12 fun i hi => by rw [show i = w5.heap.size from hi]; exact z5
  have h12 := h2.pu hp212
  refine fin h12 hp212 (fun _ => h12.at_.read hI mc.1) ?_ hb12
  unfold oldRec
  rw [es]
  cases zXn d n k with
  | none => rfl
  | some x =>
   simp only [Option.map_some, if_neg (show ¬ k < 0 by omega), zZx, hcc, Option.isSome_some, if_true]
   rfl
 ·have c1 : AL.get (d.ch n) k = none := by simpa using c1
  have c3 := zQn c3
  refine ⟨d.fs, h11.at_.flds, (yKY (h11.at_.fld hI.vf) (yXn hI.vf)).mono ?_⟩
  rintro e w17 ⟨q, rfl, hq, hp17⟩
  have eB : zWi d.flds = d.flds.map zQ3 := by unfold zWi; rw [if_pos (show zQV d.flds = 0 from hI.vf)]
  rw [eB] at hq
  refine ⟨_, q, _, rfl, zQl (hp17.blk hb7') yQw.symm rfl rfl fun w12 hb12 hf12 _ => ?_⟩
  have hp212 : Pu w2 w12 := ((hp7.trans hp711).trans hp17).andNew hf12 fun i hi => by rw [show i = w5.heap.size from hi]; exact z5
  have hf16 : d.flds.length <= 16 := hI.f16
  have z11 := hp711.size
  refine fin (l := d.flds.map zQ3) (h2.pu hp212) hp212 (fun _ => ⟨(hq.fr hf12 fun b hb e => by have := hq.2 b hb; have e : b = w5.heap.size := e; omega).rd (by simp; omega), by simp⟩) ?_ hb12
  unfold oldRec
  rw [es]
  cases zXn d n k with
  | none => rfl
  | some x =>
   simp only [Option.map_some, if_pos c3, Option.isSome_some, if_true]
   rfl
 ·have c1 : AL.get (d.ch n) k = none := by simpa using c1
  have c3 := zQg c3
  obtain ⟨x, hx⟩ := Option.isSome_iff_exists.1 c2
  have hr := h11.at_.read hI (zYE hn hx)
  refine fin (l := hv val ((zXn d n k).getD h0)) h11 (hp7.trans hp711) (fun _ => by rw [hx]; exact hr) ?_ hb7'
  unfold oldRec
  rw [es, hx]
  simp only [Option.map_some, if_neg c3, zZx, c1, Option.map_none, Option.isSome_some, if_true, Option.getD_some]
  rfl
 ·have c2 : (zXn d n k).isSome = false := c2
  have e0 : zXn d n k = none := by simpa using c2
  refine fin (l := []) h11 (hp7.trans hp711) (fun e => by rw [c2] at e; cases e) ?_ hb7'
  unfold oldRec
  rw [es, e0]; rfl
theorem xZg {a b : Tbl} {fa ra fb rb : SV} (ha : RdT w a fa ra) (hb : RdT w b fb rb) (hlm : a.recs.length <= 1000000) : Calls prog 23 #[zYv a fa ra, zYv b fb rb] w fun e w' => e = .returned (.bool (decide (a = b))) /\ Pu w w' := by
 have tbl_eq : (a = b) ↔ (a.page = b.page /\ a.fields = b.fields /\ a.recs = b.recs) := by
  obtain ⟨a1, a2, a3⟩ := a; obtain ⟨b1, b2, b3⟩ := b; simp
 refine yWq _ _ _ _ _ _ w _ (alB fun w1 hp1 hb1 => alB fun w2 hp2 hb2 => ?_)
 have hp02 := hp1.trans hp2
 have q1 : ∀ {wz}, Pu w2 wz -> wz.heap[w.heap.size]? = _ := fun {wz} (h : Pu w2 wz) => h.blk (hp2.blk hb1)
 have q2 : ∀ {wz}, Pu w2 wz -> wz.heap[w1.heap.size]? = _ := fun {wz} (h : Pu w2 wz) => h.blk hb2
 have no : ∀ {w' : World}, Pu w2 w' -> a ≠ b -> (Ending.returned (.bool false) = .returned (.bool (decide (a = b))) /\ Pu w w') := fun h hne => ⟨by rw [decide_eq_false hne], hp02.trans h⟩
 refine ⟨_, cl0 (q1 (Pu.refl _)), _, cl0 (q2 (Pu.refl _)), Br.of (fun d => no (Pu.refl _) fun e => zQC d (by rw [e])) (fun d => ⟨fa, cl (q1 (Pu.refl _)) 1, fb, cl (q2 (Pu.refl _)) 1, (zY0 (ha.fl.pu hp02) (hb.fl.pu hp02)).mono ?_⟩)⟩
 have hpg := zQw d
 rintro e w3 ⟨rfl, hp3⟩
 refine ⟨_, rfl, Br.of (fun d1 => no hp3 fun e => by rw [e] at d1; simp at d1) (fun d1 => ⟨ra, cl (q1 hp3) 2, rb, cl (q2 hp3) 2, ?_⟩)⟩
 have hfl : a.fields = b.fields := by simpa using d1
 have hla := ha.rc.len
 have hlb := hb.rc.len
 refine Br.of (fun d2 => no hp3 fun e => zQC d2 (by rw [hla, hlb, e])) (fun d2 => ?_)
 have hlen : a.recs.length = b.recs.length := by have := zQw d2; omega
 refine zQz a.recs.length (fun k t w' => t = (k : Int) /\ a.recs.take k = b.recs.take k /\ Pu w2 w') ⟨rfl, by simp, hp3⟩ ?_
 rintro k J t w4 hk ⟨ht, he, hp⟩ hJ
 obtain rfl : t = (k : Int) := ht
 refine ⟨ra, cl (q1 hp) 2, Br.of (fun d3 => zQf fun w5 hp5 _ => ?_) (fun d3 => ?_)⟩
 ·have hk2 : k < a.recs.length := by have := zQn d3; omega
  have p5 := hp.trans hp5
  obtain ⟨x, hx⟩ := zXg hk2
  obtain ⟨y, hy⟩ := zXg (show k < b.recs.length by omega)
  obtain ⟨p, sx, hpa, x0, x1, vx⟩ := (ha.rc.pu (hp02.trans p5)).get k x hx
  obtain ⟨q, sy, hqa, y0, y1, vy⟩ := (hb.rc.pu (hp02.trans p5)).get k y hy
  refine ⟨ra, cl (q1 p5) 2, p, hpa, by omega, by omega, _, by rw [zQL]; exact x0, sx, by rw [zQL]; exact x1, rb, cl (q2 p5) 2, q, hqa, by omega, by omega, _, by rw [zQL]; exact y0, sy, by rw [zQL]; exact y1, (zYM vx vy).mono ?_⟩
  rintro e w6 ⟨rfl, hp6⟩
  refine ⟨_, rfl, Br.of (fun d4 => no (p5.trans hp6) fun e => ?_) (fun d4 => ?_)⟩
  ·have : x = y := by rw [e] at hx; rw [hx] at hy; exact Option.some.inj hy
   subst this
   simp at d4
  ·rw [zQc (by omega) (by omega)]
   have hxy : x = y := by
    rw [rec_eq]
    simpa using d4
   exact hJ _ _ hk2 ⟨by omega, zK0 he hx hy hxy, p5.trans hp6⟩
 ·have hk2 : k = a.recs.length := by have := zQg d3; omega
  subst hk2
  rw [List.take_length, hlen, List.take_length] at he
  exact ⟨by rw [decide_eq_true (tbl_eq.2 ⟨hpg, hfl, he⟩)], hp02.trans hp⟩
end Go.Proofs.YtcihcbfcgjepfaaGreatDoor
/- Desks that are equal but for the order of the changes in a buffer: every call tells the same, and leaves such desks. In plain words. No condition but those stated. -/
namespace Go.Proofs.YtcihcbfcgjepfaaGreatDoor
open Go.Sh Go.RowKit Tryz
def Ech (l m : List (Int × (Rec × Rec))) : Prop := (∀ k, AL.get l k = AL.get m k) /\ l.length = m.length
theorem Ech.refl (l : List (Int × (Rec × Rec))) : Ech l l := ⟨fun _ => rfl, rfl⟩
theorem zKo : ∀ (l : List (Int × (Rec × Rec))) (k : Int) (v : Rec × Rec), (AL.put l k v).length = if (AL.get l k).isSome then l.length else l.length + 1
 | [], k, v => rfl
 | (a, b) :: l, k, v => by
  simp only [AL.put, AL.get]
  by_cases e : a = k
  ·simp [e]
  ·simp only [if_neg e, List.length_cons, zKo l k v]
   split <;> rfl
theorem Ech.put {l m : List (Int × (Rec × Rec))} (h : Ech l m) (k : Int) (v : Rec × Rec) : Ech (AL.put l k v) (AL.put m k v) :=
 ⟨fun x => by rw [AL.get_put, AL.get_put, h.1], by rw [zKo, zKo, h.1, h.2]⟩
theorem yKz : ∀ {l : List (Int × (Rec × Rec))} {c : Int × (Rec × Rec)}, c ∈ l -> (AL.get l c.1).isSome = true
 | [], c, h => by cases h
 | (a, b) :: l, c, h => by
  simp only [AL.get]
  by_cases e : a = c.1
  ·simp [e]
  ·rw [if_neg e]
   rcases List.mem_cons.1 h with h | h
   ·rw [h] at e; exact absurd rfl e
   ·exact yKz h
theorem Ech.any {l m : List (Int × (Rec × Rec))} (h : Ech l m) (f : Int -> Bool) : (l.any fun c => f c.1) = (m.any fun c => f c.1) := by
 have key : ∀ {l m : List (Int × (Rec × Rec))}, Ech l m -> (l.any fun c => f c.1) = true -> (m.any fun c => f c.1) = true := fun {l m} h h1 => by
  obtain ⟨c, hc, hf⟩ := List.any_eq_true.1 h1
  have h2 := yKz hc
  rw [h.1] at h2
  obtain ⟨v, hv⟩ := Option.isSome_iff_exists.1 h2
  exact List.any_eq_true.2 ⟨(c.1, v), AL.get_mem hv, hf⟩
 have sy : Ech m l := ⟨fun k => (h.1 k).symm, h.2.symm⟩
 cases e : m.any fun c => f c.1 with
 | true => exact key sy e
 | false =>
  cases e2 : l.any fun c => f c.1 with
  | false => rfl
  | true => rw [key h e2] at e; cases e
structure Eu (x y : Usr) : Prop where
 md : x.mode = y.mode
 at_ : x.at_ = y.at_
 ap : x.ap = y.ap
 ch : Ech x.ch y.ch
theorem Eu.refl (x : Usr) : Eu x x := ⟨rfl, rfl, rfl, Ech.refl _⟩
structure Eqv (σ ρ : Dsk) : Prop where
 pg : σ.page = ρ.page
 fl : σ.flds = ρ.flds
 rc : σ.recs = ρ.recs
 lk : σ.lk = ρ.lk
 us : ∀ u, Eu (σ.us u) (ρ.us u)
theorem Eqv.refl (σ : Dsk) : Eqv σ σ := ⟨rfl, rfl, rfl, rfl, fun _ => Eu.refl _⟩
variable {σ ρ : Dsk} {x y : Usr}
theorem Eu.emp (h : Eu x y) : x.emp = y.emp := by unfold Usr.emp; rw [h.ch.2, h.ap]
theorem Eu.rows (h : Eu x y) : x.rows = y.rows := by unfold Usr.rows; rw [h.md]
theorem Eqv.setU (h : Eqv σ ρ) (u : Nat) (k : Eu x y) : Eqv (σ.setU u x) (ρ.setU u y) := ⟨h.pg, h.fl, h.rc, h.lk, fun v => by
 show Eu (if v = u then x else σ.us v) (if v = u then y else ρ.us v)
 split
 ·exact k
 ·exact h.us v⟩
theorem Eqv.modeC (h : Eqv σ ρ) (u m : Int) : modeC u m σ = modeC u m ρ := by unfold Proofs.YtcihcbfcgjepfaaGreatDoor.modeC; rw [(h.us _).emp]
theorem Eqv.modeS (h : Eqv σ ρ) (u m : Int) : Eqv (modeS u m σ) (modeS u m ρ) := by
 unfold Proofs.YtcihcbfcgjepfaaGreatDoor.modeS
 rw [h.modeC]
 split
 ·exact h.setU _ ⟨rfl, (h.us _).at_, (h.us _).ap, (h.us _).ch⟩
 ·exact h
theorem Eqv.seenR (h : Eqv σ ρ) (u : Nat) (k : Int) : seenR σ u k = seenR ρ u k := by unfold Proofs.YtcihcbfcgjepfaaGreatDoor.seenR; rw [(h.us u).ap, h.rc, (h.us u).ch.1]
theorem Eqv.recK (h : Eqv σ ρ) (k : Int) : recK σ k = recK ρ k := by unfold Proofs.YtcihcbfcgjepfaaGreatDoor.recK; rw [h.rc]
theorem Eqv.keysU (h : Eqv σ ρ) (u : Nat) : keysU σ u = keysU ρ u := by
 unfold Proofs.YtcihcbfcgjepfaaGreatDoor.keysU
 rw [h.rc]
 exact List.filter_congr fun i _ => by rw [(h.us u).ch.1]
theorem Eqv.clashK (h : Eqv σ ρ) (u : Nat) : clashK σ u = clashK ρ u := by
 unfold Proofs.YtcihcbfcgjepfaaGreatDoor.clashK
 rw [h.rc]
 exact List.filter_congr fun i _ => by rw [(h.us u).ch.1, h.recK]
theorem Eqv.busyB (h : Eqv σ ρ) (u : Nat) : busyB σ u = busyB ρ u := by
 unfold Proofs.YtcihcbfcgjepfaaGreatDoor.busyB
 rw [h.lk]
 exact (h.us u).ch.any fun k => match ρ.lk k with
  | some v => !decide (v = (u : Int))
  | none => false
theorem Eqv.storeC (h : Eqv σ ρ) (u : Nat) (f : Bool) : storeC u f σ = storeC u f ρ := by unfold Proofs.YtcihcbfcgjepfaaGreatDoor.storeC; rw [h.clashK, h.busyB]
theorem Eqv.storeL (h : Eqv σ ρ) (u : Nat) : storeL u σ = storeL u ρ := by unfold Proofs.YtcihcbfcgjepfaaGreatDoor.storeL; rw [(h.us u).ap, h.rc]
theorem Ech.apply {l m : List (Int × (Rec × Rec))} (h : Ech l m) (r : List Rec) : zXb l r = zXb m r := by
 unfold zXb
 congr 1
 funext i r
 rw [h.1]
theorem Eqv.clean (h : Eqv σ ρ) (u : Nat) : Eqv (zX2 u σ) (zX2 u ρ) := by
 have k := h.setU u (x := { σ.us u with ch := [], ap := [] }) (y := { ρ.us u with ch := [], ap := [] }) ⟨(h.us u).md, (h.us u).at_, rfl, Ech.refl _⟩
 exact ⟨k.pg, k.fl, k.rc, by show (fun k => if σ.lk k = some (u : Int) then none else σ.lk k) = _; rw [h.lk]; rfl, k.us⟩
theorem Eqv.storedS (h : Eqv σ ρ) (u : Nat) : Eqv (storedS u σ) (storedS u ρ) := by
 unfold Proofs.YtcihcbfcgjepfaaGreatDoor.storedS
 refine Eqv.clean ?_ u
 refine Eqv.setU ?_ u ?_
 ·exact ⟨h.pg, h.fl, by show zXb _ σ.recs ++ _ = zXb _ ρ.recs ++ _; rw [h.rc, (h.us u).ap, (h.us u).ch.apply], h.lk, h.us⟩
 ·refine ⟨(h.us u).md, ?_, (h.us u).ap, (h.us u).ch⟩
  show (if (σ.us u).at_ < 0 then (σ.recs.length : Int) - (σ.us u).at_ else (σ.us u).at_) = (if (ρ.us u).at_ < 0 then (ρ.recs.length : Int) - (ρ.us u).at_ else (ρ.us u).at_)
  rw [h.rc, (h.us u).at_]
theorem Eqv.storeS (h : Eqv σ ρ) (u : Nat) (f : Bool) : Eqv (storeS u f σ) (storeS u f ρ) := by
 unfold Proofs.YtcihcbfcgjepfaaGreatDoor.storeS
 rw [h.storeC]
 split
 ·exact h.storedS u
 ·exact h
theorem Eqv.leaveC (h : Eqv σ ρ) (u : Nat) : leaveC u σ = leaveC u ρ := by unfold Proofs.YtcihcbfcgjepfaaGreatDoor.leaveC; rw [(h.us u).rows, (h.us u).emp, h.storeC]
theorem Eqv.leaveS (h : Eqv σ ρ) (u : Nat) : Eqv (leaveS u σ) (leaveS u ρ) := by
 unfold Proofs.YtcihcbfcgjepfaaGreatDoor.leaveS
 rw [(h.us u).rows, (h.us u).emp]
 split
 ·exact h
 ·exact h.storeS u false
theorem Eqv.storeE (h : Eqv σ ρ) (u : Int) (f : Bool) : storeE u f σ = storeE u f ρ := by unfold Proofs.YtcihcbfcgjepfaaGreatDoor.storeE; rw [h.storeC]
theorem Eqv.storeEL (h : Eqv σ ρ) (u : Int) (f : Bool) : storeEL u f σ = storeEL u f ρ := by unfold Proofs.YtcihcbfcgjepfaaGreatDoor.storeEL; rw [h.storeE, h.storeL]
theorem Eqv.storeES (h : Eqv σ ρ) (u : Int) (f : Bool) : Eqv (storeES u f σ) (storeES u f ρ) := by
 unfold Proofs.YtcihcbfcgjepfaaGreatDoor.storeES
 split
 ·exact h.storeS _ f
 ·exact h
theorem Eqv.goC (h : Eqv σ ρ) (u k : Int) : goC u k σ = goC u k ρ := by unfold Proofs.YtcihcbfcgjepfaaGreatDoor.goC; rw [h.seenR, (h.us _).at_, h.leaveC]
theorem Eqv.at_ (h : Eqv σ ρ) (u : Nat) (k : Int) : Eqv (σ.setU u { σ.us u with at_ := k }) (ρ.setU u { ρ.us u with at_ := k }) := h.setU u ⟨(h.us u).md, rfl, (h.us u).ap, (h.us u).ch⟩
theorem Eqv.goS (h : Eqv σ ρ) (u k : Int) : Eqv (goS u k σ) (goS u k ρ) := by
 unfold Proofs.YtcihcbfcgjepfaaGreatDoor.goS
 rw [h.goC]
 split
 ·exact h
 ·show Eqv (Dsk.setU (if k = (σ.us u.toNat).at_ then σ else Proofs.YtcihcbfcgjepfaaGreatDoor.leaveS u.toNat σ) _ _) (Dsk.setU (if k = (ρ.us u.toNat).at_ then ρ else Proofs.YtcihcbfcgjepfaaGreatDoor.leaveS u.toNat ρ) _ _)
  rw [(h.us u.toNat).at_]
  split
  ·exact h.at_ _ k
  ·exact (h.leaveS _).at_ _ k
theorem Eqv.allN (h : Eqv σ ρ) : allN σ = allN ρ := by unfold Proofs.YtcihcbfcgjepfaaGreatDoor.allN; rw [h.rc, (h.us 0).ap, (h.us 1).ap, (h.us 2).ap, (h.us 3).ap]
theorem Eqv.appC (h : Eqv σ ρ) (u : Int) : appC u σ = appC u ρ := by unfold Proofs.YtcihcbfcgjepfaaGreatDoor.appC; rw [h.leaveC, (h.leaveS _).allN]
theorem Eqv.blankR (h : Eqv σ ρ) : blankR σ = blankR ρ := by unfold Proofs.YtcihcbfcgjepfaaGreatDoor.blankR; rw [h.fl]
theorem Eqv.appendedS (h : Eqv σ ρ) (u : Nat) : Eqv (appendedS u σ) (appendedS u ρ) := by
 unfold Proofs.YtcihcbfcgjepfaaGreatDoor.appendedS
 rw [(h.us u).md, h.blankR, h.rc, (h.us u).ap]
 split
 ·refine Eqv.setU ?_ u ?_
  ·exact ⟨h.pg, h.fl, rfl, h.lk, h.us⟩
  ·exact ⟨by first | rfl | exact (h.us u).md, rfl, by first | rfl | exact (h.us u).ap, (h.us u).ch⟩
 ·refine h.setU u ?_
  exact ⟨by first | rfl | exact (h.us u).md, rfl, rfl, (h.us u).ch⟩
theorem Eqv.appS (h : Eqv σ ρ) (u : Int) : Eqv (appS u σ) (appS u ρ) := by
 unfold Proofs.YtcihcbfcgjepfaaGreatDoor.appS
 rw [h.leaveC, (h.leaveS _).allN]
 split
 ·exact h
 ·split
  ·exact h
  ·split
   ·exact h.leaveS _
   ·exact (h.leaveS _).appendedS _
theorem Eqv.appN (h : Eqv σ ρ) (u : Int) : appN u σ = appN u ρ := by unfold Proofs.YtcihcbfcgjepfaaGreatDoor.appN; rw [h.appC, ((h.appS u).us _).at_]
theorem Eqv.lockC (h : Eqv σ ρ) (u : Nat) : lockC u σ = lockC u ρ := by
 show (if (σ.us u).mode = 2 ∨ (σ.us u).mode = 4 ∨ (σ.us u).at_ < 0 then (0 : Int) else match σ.lk (σ.us u).at_ with | some v => if v = (u : Int) then 0 else 12 | none => 0) = (if (ρ.us u).mode = 2 ∨ (ρ.us u).mode = 4 ∨ (ρ.us u).at_ < 0 then (0 : Int) else match ρ.lk (ρ.us u).at_ with | some v => if v = (u : Int) then 0 else 12 | none => 0)
 rw [(h.us u).md, (h.us u).at_, h.lk]
theorem Eqv.lockS (h : Eqv σ ρ) (u : Nat) : Eqv (lockS u σ) (lockS u ρ) := by
 show Eqv (if (σ.us u).mode = 2 ∨ (σ.us u).mode = 4 ∨ (σ.us u).at_ < 0 ∨ (σ.us u).mode = 0 then σ else { σ with lk := fun k => if k = (σ.us u).at_ then some (u : Int) else σ.lk k }) (if (ρ.us u).mode = 2 ∨ (ρ.us u).mode = 4 ∨ (ρ.us u).at_ < 0 ∨ (ρ.us u).mode = 0 then ρ else { ρ with lk := fun k => if k = (ρ.us u).at_ then some (u : Int) else ρ.lk k })
 rw [(h.us u).md, (h.us u).at_, h.lk]
 split
 ·exact h
 ·exact ⟨h.pg, h.fl, h.rc, rfl, h.us⟩
theorem Eqv.alterS (h : Eqv σ ρ) (u : Nat) (f : Rec -> Rec) : Eqv (alterS u f σ) (alterS u f ρ) := by
 show Eqv (if (σ.us u).at_ < 0 then _ else if (σ.us u).mode = 0 then _ else _) (if (ρ.us u).at_ < 0 then _ else if (ρ.us u).mode = 0 then _ else _)
 rw [(h.us u).md, (h.us u).at_, (h.us u).ap, h.rc, (h.us u).ch.1, h.recK]
 split
 ·refine h.setU u ?_
  exact ⟨by first | rfl | exact (h.us u).md, by first | rfl | exact (h.us u).at_, rfl, (h.us u).ch⟩
 ·split
  ·exact ⟨h.pg, h.fl, rfl, h.lk, h.us⟩
  ·refine (h.lockS u).setU u ?_
   exact ⟨by first | rfl | exact (h.us u).md, by first | rfl | exact (h.us u).at_, by first | rfl | exact (h.us u).ap, (h.us u).ch.put _ _⟩
theorem Eqv.setC (h : Eqv σ ρ) (u : Int) (nm : ByteArray) (v : Val) : setC u nm v σ = setC u nm v ρ := by unfold Proofs.YtcihcbfcgjepfaaGreatDoor.setC; rw [(h.us _).at_, h.fl, h.pg, h.lockC]
theorem Eqv.setS (h : Eqv σ ρ) (u : Int) (nm : ByteArray) (v : Val) : Eqv (setS u nm v σ) (setS u nm v ρ) := by
 unfold Proofs.YtcihcbfcgjepfaaGreatDoor.setS
 rw [h.setC, h.fl, h.pg]
 split
 ·split
  ·exact h
  ·exact h.alterS _ _
 ·exact h
theorem Eqv.markC (h : Eqv σ ρ) (u : Int) : markC u σ = markC u ρ := by unfold Proofs.YtcihcbfcgjepfaaGreatDoor.markC; rw [(h.us _).at_, h.lockC]
theorem Eqv.markS (h : Eqv σ ρ) (u : Int) (g : Bool) : Eqv (markS u g σ) (markS u g ρ) := by
 unfold Proofs.YtcihcbfcgjepfaaGreatDoor.markS
 rw [h.markC]
 split
 ·exact h.alterS _ _
 ·exact h
theorem Eqv.valueR (h : Eqv σ ρ) (r : Option Rec) (nm : ByteArray) : valueR σ r nm = valueR ρ r nm := by unfold Proofs.YtcihcbfcgjepfaaGreatDoor.valueR; rw [h.fl]
theorem Eqv.getR (h : Eqv σ ρ) (u k : Int) (nm : ByteArray) : getR u k nm σ = getR u k nm ρ := by unfold Proofs.YtcihcbfcgjepfaaGreatDoor.getR; rw [h.valueR, h.seenR]
theorem Eqv.oldRec (h : Eqv σ ρ) (u : Nat) (k : Int) : oldRec σ u k = oldRec ρ u k := by unfold Proofs.YtcihcbfcgjepfaaGreatDoor.oldRec; rw [h.seenR, h.blankR, (h.us u).ch.1]
theorem Eqv.oldR (h : Eqv σ ρ) (u k : Int) (nm : ByteArray) : oldR u k nm σ = oldR u k nm ρ := by unfold Proofs.YtcihcbfcgjepfaaGreatDoor.oldR; rw [h.valueR, h.oldRec]
theorem Eqv.nowR (h : Eqv σ ρ) (k : Int) (nm : ByteArray) : nowR k nm σ = nowR k nm ρ := by unfold Proofs.YtcihcbfcgjepfaaGreatDoor.nowR; rw [h.valueR, h.recK, h.rc]
theorem Eqv.changedL (h : Eqv σ ρ) (u : Int) : changedL u σ = changedL u ρ := by unfold Proofs.YtcihcbfcgjepfaaGreatDoor.changedL; rw [h.keysU, (h.us _).ap]
theorem Eqv.clashesL (h : Eqv σ ρ) (u : Int) : clashesL u σ = clashesL u ρ := by unfold Proofs.YtcihcbfcgjepfaaGreatDoor.clashesL; rw [h.clashK]
theorem Eqv.lockedR (h : Eqv σ ρ) (k : Int) : lockedR k σ = lockedR k ρ := by unfold Proofs.YtcihcbfcgjepfaaGreatDoor.lockedR; rw [h.rc, h.lk]
theorem Eqv.revertU (h : Eqv σ ρ) (u : Nat) : Eqv (revertU u σ) (revertU u ρ) := by
 unfold Proofs.YtcihcbfcgjepfaaGreatDoor.revertU
 refine Eqv.clean ?_ u
 refine h.setU u ?_
 refine ⟨(h.us u).md, ?_, (h.us u).ap, (h.us u).ch⟩
 show (if (σ.us u).at_ < 0 then (0 : Int) else (σ.us u).at_) = (if (ρ.us u).at_ < 0 then (0 : Int) else (ρ.us u).at_)
 rw [(h.us u).at_]
theorem Eqv.revertN (h : Eqv σ ρ) (u : Int) : revertN u σ = revertN u ρ := by unfold Proofs.YtcihcbfcgjepfaaGreatDoor.revertN; rw [(h.us _).ch.2, (h.us _).ap]
theorem Eqv.revertS (h : Eqv σ ρ) (u : Int) : Eqv (revertS u σ) (revertS u ρ) := by
 unfold Proofs.YtcihcbfcgjepfaaGreatDoor.revertS
 split
 ·exact h.revertU _
 ·exact h
theorem Eqv.fallS (h : Eqv σ ρ) (u : Int) : Eqv (fallS u σ) (fallS u ρ) := by
 unfold Proofs.YtcihcbfcgjepfaaGreatDoor.fallS
 split
 ·have k := h.revertU u.toNat
  exact k.setU _ ⟨rfl, rfl, (k.us _).ap, (k.us _).ch⟩
 ·exact h
end Go.Proofs.YtcihcbfcgjepfaaGreatDoor
/- Desks: acts that are handed in; what is too large. No condition but those stated. -/
namespace Go.Proofs.YtcihcbfcgjepfaaGreatDoor
open Go.Sh Go.RowKit Tryz
structure Act where
 op : Int
 a : Int
 b : Int
 c : Int
 s : ByteArray
 t : ByteArray
def Act.ok (a : Act) : Prop := zWU a.op /\ zWU a.a /\ zWU a.b /\ zWU a.c
def Act.vals (a : Act) : List Value := [.int .i64 a.op, .int .i64 a.a, .int .i64 a.b, .int .i64 a.c, .string a.s, .string a.t]
abbrev actA (a : Act) : Value := .agg #[.int .i64 a.op, .int .i64 a.a, .int .i64 a.b, .int .i64 a.c, .string a.s, .string a.t]
instance : Enc Act where
 sz := 6
 rd _ vs a := vs = a.vals /\ a.ok
 len h := by rw [h.1]; rfl
 pu _ h := h
instance : Lim Act := ⟨fun a => Lim.ok a.s /\ Lim.ok a.t⟩
theorem actAt {w : World} {s : SV} {l : List Act} (h : zXI w s l) {i : Nat} {x : Act} (hx : l[i]? = some x) : ∃ a, s.a = some a /\ i < s.len /\ x.ok /\ w.cell? ((a.add (i * 6)).add 0) = some (.int .i64 x.op) /\ w.cell? ((a.add (i * 6)).add 1) = some (.int .i64 x.a) /\
  w.cell? ((a.add (i * 6)).add 2) = some (.int .i64 x.b) /\ w.cell? ((a.add (i * 6)).add 3) = some (.int .i64 x.c) /\ w.cell? ((a.add (i * 6)).add 4) = some (.string x.s) /\ w.cell? ((a.add (i * 6)).add 5) = some (.string x.t) := by
 obtain ⟨a, ha, vs, h1, h2⟩ := h.get i x hx
 obtain ⟨rfl, hok⟩ : vs = x.vals /\ x.ok := h1
 have hi : i < l.length := (List.getElem?_eq_some_iff.1 hx).1
 have h2 : zZy w (a.add (i * 6)) x.vals := h2
 exact ⟨a, ha, by rw [h.len]; exact hi, hok, h2 0 _ rfl, h2 1 _ rfl, h2 2 _ rfl, h2 3 _ rfl, h2 4 _ rfl, h2 5 _ rfl⟩
open Go.ChangeShapes Go.WideShapes Go.ChangeAt in
theorem yW5 : zJS prog 51 Act := fun H enc w base sp held fuel cs x h hr => by
 obtain ⟨hl, hF⟩ := zZm (P := prog) (t := 51) (ts := [(3, 0), (3, 1), (3, 2), (3, 3), (9, 4), (9, 5)]) (by kernel_rfl) (by rfl) (fun p hp => by
  simp only [List.mem_cons, List.not_mem_nil, or_false] at hp
  rcases hp with rfl | rfl | rfl | rfl | rfl | rfl <;> kernel_rfl) (by kernel_rfl) h
 obtain ⟨n0, v0, d0, c0, t0, w0⟩ := hF 0 _ rfl
 obtain ⟨n1, v1, d1, c1, t1, w1⟩ := hF 1 _ rfl
 obtain ⟨n2, v2, d2, c2, t2, w2⟩ := hF 2 _ rfl
 obtain ⟨n3, v3, d3, c3, t3, w3⟩ := hF 3 _ rfl
 obtain ⟨n4, v4, d4, c4, t4, w4⟩ := hF 4 _ rfl
 obtain ⟨n5, v5, d5, c5, t5, w5⟩ := hF 5 _ rfl
 obtain ⟨x0, r0, l0⟩ := zQU (zXG (by kernel_rfl)) t0 fun m hm => hr m (w0 m hm)
 obtain ⟨x1, r1, l1⟩ := zQU (zXG (by kernel_rfl)) t1 fun m hm => hr m (w1 m hm)
 obtain ⟨x2, r2, l2⟩ := zQU (zXG (by kernel_rfl)) t2 fun m hm => hr m (w2 m hm)
 obtain ⟨x3, r3, l3⟩ := zQU (zXG (by kernel_rfl)) t3 fun m hm => hr m (w3 m hm)
 obtain ⟨x4, r4, l4⟩ := zQU (zJY (by kernel_rfl)) t4 fun m hm => hr m (w4 m hm)
 obtain ⟨x5, r5, l5⟩ := zQU (zJY (by kernel_rfl)) t5 fun m hm => hr m (w5 m hm)
 obtain ⟨r0, b0⟩ := r0
 obtain ⟨r1, b1⟩ := r1
 obtain ⟨r2, b2⟩ := r2
 obtain ⟨r3, b3⟩ := r3
 have r4 : [v4] = [.string x4] := r4
 have r5 : [v5] = [.string x5] := r5
 simp only [List.cons.injEq, and_true] at r0 r1 r2 r3 r4 r5
 subst r0 r1 r2 r3 r4 r5
 refine ⟨⟨x0, x1, x2, x3, x4, x5⟩, ⟨?_, b0, b1, b2, b3⟩, ⟨l4, l5⟩⟩
 have hl : cs.length = 6 := hl
 apply List.ext_getElem?
 intro i
 match i with
 | 0 => exact c0
 | 1 => exact c1
 | 2 => exact c2
 | 3 => exact c3
 | 4 => exact c4
 | 5 => exact c5
 | k + 6 => rw [List.getElem?_eq_none (by omega)]; rfl
def actV (x : Act) : Val := ⟨x.c, x.b, x.t⟩
theorem xQs (x : Act) (w : World) : Calls prog 21 #[actA x] w fun e w' => e = .returned (zZc (actV x)) /\ Pu w w' := by
 refine yJs _ _ _ _ _ _ w _ (alB fun w1 hp1 hb1 => alB fun w2 hp2 hb2 => ?_)
 have q1 := hp2.blk hb1
 refine ⟨_, cl q1 3, _, cl q1 2, _, cl q1 5, zQl hb2 zKR.symm rfl rfl fun w3 hb3 hf3 _ => ⟨_, cl hb3 0, _, cl hb3 1, _, cl hb3 2, rfl, (hp1.trans hp2).andNew hf3 fun i hi => by rw [show i = w1.heap.size from hi]; exact hp1.size⟩⟩
theorem over_c {w : World} {t : Tbl} {f r s : SV} {l : List Act} (h : zK1 w t f r) (hl : zXI w s l) : Calls prog 9 #[zYv t f r, .slice s.a s.len s.cap] w fun e w' => ∃ b : Bool, e = .returned (.bool b) /\ Pu w w' /\ (b = false -> l.length <= 200) := by
 refine yVk _ _ _ _ w _ (alB fun w1 hp1 hb1 => ⟨_, cl hb1 0, _, cl hb1 1, _, cl hb1 2, (yVt (h.pu hp1)).mono ?_⟩)
 rintro e w2 ⟨n, rfl, hp2⟩
 have hp := hp1.trans hp2
 have hlen := hl.len
 have hlim := hl.lim
 refine ⟨n, rfl, ?_⟩
 refine zQz l.length (fun k t w' => t.2 = (k : Int) /\ Pu w w') ⟨rfl, hp⟩ ?_
 rintro k J ⟨n3, m⟩ w3 hk ⟨hm, hp3⟩ hJ
 obtain rfl : m = (k : Int) := hm
 dsimp only
 refine Br.of (fun d1 => zQf fun w4 hp4 _ => ?_) (fun d1 => ?_)
 ·have hk2 : k < l.length := by have := zQn d1; omega
  obtain ⟨x, hx⟩ := zXg hk2
  obtain ⟨a, ha, hi, hok, _, _, _, _, c4, c5⟩ := actAt ((hl.pu hp3).pu hp4) hx
  refine ⟨a, ha, by omega, by omega, x.s, c4, a, ha, by omega, by omega, x.t, c5, ?_⟩
  rw [zQc (n := (k : Int) + 1) (by omega) (by omega)]
  exact hJ _ _ hk2 ⟨by dsimp only; omega, hp3.trans hp4⟩
 ·refine Br.of (fun d2 => ⟨true, rfl, hp3, fun e => by cases e⟩) (fun d2 => ⟨_, rfl, hp3, fun e => ?_⟩)
  have := zQg e; omega
end Go.Proofs.YtcihcbfcgjepfaaGreatDoor
/- Desks: the program's known desk: two users of one record. No condition but those stated. -/
namespace Go.Proofs.YtcihcbfcgjepfaaGreatDoor
open Go.Sh Go.RowKit Tryz
variable {w w' : World} {d d' : zQr} {val : Nat -> List Val} {mu : Int}
structure One (w0 w : World) (d : zQr) (val : Nat -> List Val) (σ : Dsk) : Prop where
 pu : Pu w0 w
 at_ : zQh w d 0 val
 abs : zQa d val = σ
 inv : Inv σ
 new : ∀ b, d.o b ≠ none -> w0.heap.size <= b
theorem One.step {w0 : World} {σ σ' : Dsk} {val' : Nat -> List Val} (h : One w0 w d val σ) (hL : zQ4 w w' d d' 0 val') (ha : zQa d' val' = σ') (hI : Inv σ') : One w0 w' d' val' σ' :=
 ⟨h.pu.andNew hL.fr fun i hi => h.new i hi, hL.sys, ha, hI, fun b hb => (hL.own b hb).elim (h.new b) fun hz => Nat.le_trans h.pu.size hz⟩
theorem One.plus {w0 w1 : World} {σ : Dsk} (h : One w0 w d val σ) (hp : Pu w w1) : One w0 w1 d val σ := ⟨h.pu.trans hp, h.at_.pu hp, h.abs, h.inv, h.new⟩
theorem yJ8 {α : Type} [Enc α] {b : Nat} {vs : List Value} {ty : TypeId} {x : α} (hb : w.heap[b]? = some (.cells vs.toArray ty)) (h : Enc.rd w vs x) : zXI w ⟨some ⟨b, 0, none⟩, 1, 1⟩ [x] :=
 ⟨rfl, Nat.le_refl _, (by show 1 <= 140737488355328; omega), fun i y hy => by
  cases i with
  | succ i => simp at hy
  | zero =>
   simp at hy; subst hy
   refine ⟨_, rfl, vs, h, fun j v hv => ?_⟩
   rw [Nat.zero_mul, yQM, cl hb]
   simpa using hv⟩
def kA : ByteArray := ⟨#[65]⟩
def kT : Tbl := ⟨0, [⟨kA, 2, 5, false⟩], [⟨false, [⟨2, 0, ⟨#[]⟩⟩]⟩]⟩
def kV (n : Int) : Val := ⟨2, n, ⟨#[]⟩⟩
def kU (u : Nat) (σ : Dsk) : Dsk := setS u kA (kV ((u : Int) + 1)) (goS u 1 (modeS u 2 σ))
def kS : Nat -> Dsk
 | 0 => Dsk.new kT
 | k + 1 => kU k (kS k)
theorem yWc : zXt kT = 0 := by decide +kernel
theorem k_mode (u : Nat) (hu : u < 2) : modeC u 2 (kS u) = 0 := by
 rcases (by omega : u = 0 ∨ u = 1) with rfl | rfl <;> decide +kernel
theorem k_go (u : Nat) (hu : u < 2) : goC u 1 (modeS u 2 (kS u)) = 0 := by
 rcases (by omega : u = 0 ∨ u = 1) with rfl | rfl <;> decide +kernel
theorem k_set (u : Nat) (hu : u < 2) : setC u kA (kV ((u : Int) + 1)) (goS u 1 (modeS u 2 (kS u))) = 0 := by
 rcases (by omega : u = 0 ∨ u = 1) with rfl | rfl <;> decide +kernel
def k3 : Dsk := storeES 0 false (kS 2)
def k4 : Dsk := storeES 1 false k3
def k5 : Dsk := storeES 1 true k4
theorem k_s1 : storeE 0 false (kS 2) = 0 := by decide +kernel
theorem k_s2 : storeE 1 false k3 = 13 := by decide +kernel
theorem k_s3 : storeE 1 true k4 = 0 := by decide +kernel
theorem k_now : nowR 1 kA k5 = (kV 2, 0) := by decide +kernel
theorem zZ3 {n : Int} (h1 : 0 <= n) (h2 : n <= 1000) : zWU n := ⟨by omega, by omega⟩
theorem yWt (S : Nat) (x y : Operand) (w : World) : (eqS .eql 32 x y (.pointer (some ⟨S, 0, none⟩)) (.pointer none)).run prog w = .ok (.bool false) w := zXR bu32 _ _ _ w
theorem yK8 (w : World) : Calls prog 10 #[] w fun e w' => e = .returned (.bool true) /\ Pu w w' := by
 refine yWL w _ (alB fun w1 hp1 hb1 => (yWQ 0 w1).mono ?_)
 rintro e w2 ⟨rfl, hp2⟩
 refine ⟨_, _, _, rfl, alB fun w3 hp3 hb3 => alB fun w4 hp4 hb4 => ?_⟩
 have hp02 := hp1.trans hp2
 have hp04 := (hp02.trans hp3).trans hp4
 have b1 := hp4.blk (hp3.blk (hp2.blk hb1))
 have b3 := hp4.blk hb3
 have rV : zXI w4 ⟨some ⟨w2.heap.size, 0, none⟩, 1, 1⟩ [(⟨2, 0, ⟨#[]⟩⟩ : Val)] := yJ8 b3 ⟨rfl, zZ3 (by decide) (by decide), zZ3 (by decide) (by decide)⟩
 have rF : zXI w4 ⟨some ⟨w.heap.size, 0, none⟩, 1, 1⟩ [(⟨kA, 2, 5, false⟩ : Fld)] := yJ8 b1 ⟨rfl, zZ3 (by decide) (by decide), zZ3 (by decide) (by decide)⟩
 have rR : zXI w4 ⟨some ⟨w3.heap.size, 0, none⟩, 1, 1⟩ [(⟨false, [⟨2, 0, ⟨#[]⟩⟩]⟩ : Rec)] := yJ8 hb4 ⟨_, rfl, rV⟩
 have rT : zK1 w4 kT ⟨some ⟨w.heap.size, 0, none⟩, 1, 1⟩ ⟨some ⟨w3.heap.size, 0, none⟩, 1, 1⟩ := ⟨zZ3 (by decide) (by decide), rF, rR⟩
 refine (new_c rT (by intro f hf; simp [kT] at hf; subst hf; show 1 <= 140737488355328; omega)).mono ?_
 rintro e w5 ⟨hp5, -, hgood⟩
 obtain ⟨d, val, rfl, hD, habs, hnew⟩ := hgood yWc
 have hI := zWs yWc
 have hO : One w w5 d val (kS 0) := ⟨hp04.trans hp5, hD, habs, hI, fun b hb => Nat.le_trans hp04.size (hnew b hb)⟩
 refine ⟨some ⟨d.S, 0, none⟩, 0, rfl, ?_⟩
 show ∃ b27 : Bool, ∃ w25 : World, _ /\ _
 refine ⟨false, w5, yWt _ _ _ w5, ?_⟩
 show xZu _ _ _ _ _
 refine zQz 2 (fun k t w' => t = (k : Int) /\ ∃ dk valk, dk.S = d.S /\ One w w' dk valk (kS k)) ⟨rfl, d, val, rfl, hO⟩ ?_
 rintro k J t w6 hk ⟨ht, dk, valk, hS, h6⟩ hJ
 obtain rfl : t = (k : Int) := ht
 have ep : (some ⟨d.S, 0, none⟩ : Option Addr) = some ⟨dk.S, 0, none⟩ := by rw [hS]
 rw [ep]
 refine Br.of (fun d1 => ?_) (fun d1 => ?_)
 ·have hk2 : k < 2 := by have := zQn d1; omega
  refine (xQl h6.at_ (k : Int) 2).mono ?_
  rintro e w7 ⟨rfl, d7, hL7, ha7⟩
  rw [h6.abs] at ha7 ⊢
  rw [k_mode k hk2]
  have h7 := h6.step hL7 ha7 (h6.inv.mode _ _)
  refine ⟨_, rfl, ?_⟩
  show Calls prog 15 #[dk.ptr, _, _] w7 _
  rw [show dk.ptr = d7.ptr by unfold zQr.ptr; rw [hL7.ptr]]
  refine (go_c h7.at_ (by rw [h7.abs]; exact h7.inv) (k : Int) 1).mono ?_
  rintro e w8 ⟨rfl, d8, v8, hL8, ha8⟩
  rw [h7.abs] at ha8 ⊢
  rw [k_go k hk2]
  have h8 := h7.step hL8 ha8 (h7.inv.go _ _)
  refine ⟨_, rfl, ?_⟩
  show Calls prog 37 _ w8 _
  rw [zQc (n := (k : Int) + 1) (by omega) (by omega)]
  refine (yWQ ((k : Int) + 1) w8).mono ?_
  rintro e w9 ⟨rfl, hp9⟩
  have h9 := h8.plus hp9
  refine ⟨_, _, _, rfl, ?_⟩
  rw [show (some ⟨dk.S, 0, none⟩ : Option Addr) = some ⟨d8.S, 0, none⟩ by rw [hL8.ptr, hL7.ptr]]
  refine (set_c h9.at_ (by rw [h9.abs]; exact h9.inv) (k : Int) kA (kV ((k : Int) + 1))).mono ?_
  rintro e w10 ⟨rfl, d10, v10, hL10, ha10⟩
  rw [h9.abs] at ha10 ⊢
  rw [k_set k hk2]
  have h10 := h9.step hL10 ha10 (h9.inv.set _ _ _)
  refine ⟨_, rfl, ?_⟩
  show J _ w10
  refine hJ _ _ hk2 ⟨by omega, d10, v10, by rw [hL10.ptr, hL8.ptr, hL7.ptr, hS], h10⟩
 ·have hk2 : k = 2 := by have := zQg d1; omega
  subst hk2
  refine (zVE h6.at_ (by rw [h6.abs]; exact h6.inv) 0 false).mono ?_
  rintro e w7 ⟨q7, rfl, -, d7, v7, hL7, ha7⟩
  rw [h6.abs] at ha7 ⊢
  rw [k_s1]
  have h7 := h6.step hL7 ha7 (h6.inv.storeE _ _)
  refine ⟨q7, _, rfl, ?_⟩
  rw [show (some ⟨dk.S, 0, none⟩ : Option Addr) = some ⟨d7.S, 0, none⟩ by rw [hL7.ptr]]
  refine (zVE h7.at_ (by rw [h7.abs]; exact h7.inv) 1 false).mono ?_
  rintro e w8 ⟨q8, rfl, -, d8, v8, hL8, ha8⟩
  rw [h7.abs] at ha8 ⊢
  have e2 : storeE 1 false (storeES 0 false (kS 2)) = 13 := k_s2
  rw [e2]
  have h8 := h7.step hL8 ha8 (h7.inv.storeE _ _)
  refine ⟨q8, _, rfl, ?_⟩
  rw [show (some ⟨d7.S, 0, none⟩ : Option Addr) = some ⟨d8.S, 0, none⟩ by rw [hL8.ptr]]
  refine (zVE h8.at_ (by rw [h8.abs]; exact h8.inv) 1 true).mono ?_
  rintro e w9 ⟨q9, rfl, -, d9, v9, hL9, ha9⟩
  rw [h8.abs] at ha9 ⊢
  have e3 : storeE 1 true (storeES 1 false (storeES 0 false (kS 2))) = 0 := k_s3
  rw [e3]
  have h9 := h8.step hL9 ha9 (h8.inv.storeE _ _)
  refine ⟨q9, _, rfl, ?_⟩
  rw [show (some ⟨d8.S, 0, none⟩ : Option Addr) = some ⟨d9.S, 0, none⟩ by rw [hL9.ptr]]
  refine (now_c h9.at_ (by rw [h9.abs]; exact h9.inv) 1 kA).mono ?_
  rintro e w10 ⟨rfl, hL10⟩
  rw [h9.abs]
  have e4 : nowR 1 kA (storeES 1 true (storeES 1 false (storeES 0 false (kS 2)))) = (kV 2, 0) := k_now
  rw [e4]
  have h10 := h9.step hL10 h9.abs h9.inv
  refine ⟨_, _, _, _, rfl, alB fun w11 hp11 hb11 => zQl hb11 zKR.symm rfl rfl fun w12 hb12 hf12 _ => ?_⟩
  have hp12 : Pu w w12 := (h10.pu.trans hp11).andNew hf12 fun i hi => by rw [show i = w10.heap.size from hi]; exact h10.pu.size
  show ∃ n88 : Int, _ /\ _
  exact ⟨2, cl hb12 1, rfl, hp12⟩
end Go.Proofs.YtcihcbfcgjepfaaGreatDoor
/- Desks: both desks in one world; an act that is played on both. No condition but those stated. -/
namespace Go.Proofs.YtcihcbfcgjepfaaGreatDoor
open Go.Sh Go.RowKit Tryz
structure Duo (w0 w : World) (d : zQr) (val : Nat -> List Val) (r : zQr) (rv : Nat -> List Val) (σ ρ : Dsk) : Prop where
 pu : Pu w0 w
 da : zQh w d 0 val
 ra : zQs w r rv
 dab : zQa d val = σ
 rab : zQa r rv = ρ
 ap : ∀ b, d.o b ≠ none -> r.o b = none
 dn : ∀ b, d.o b ≠ none -> w0.heap.size <= b
 rn : ∀ b, r.o b ≠ none -> w0.heap.size <= b
section
variable {w0 w w' : World} {d d' r r' : zQr} {val val' rv rv' : Nat -> List Val} {σ ρ τ : Dsk}
theorem Duo.pgm (h : Duo w0 w d val r rv σ ρ) (hL : zQ4 w w' d d' 0 val') (ha : zQa d' val' = τ) : Duo w0 w' d' val' r rv τ ρ where
 pu := h.pu.andNew hL.fr fun i hi => h.dn i hi
 da := hL.sys
 ra := h.ra.fr hL.fr fun b hb hd => hb (h.ap b hd)
 dab := ha
 rab := h.rab
 ap b hb := by
  rcases hL.own b hb with h1 | h1
  ·exact h.ap b h1
  ·exact h.ra.bd.out h1
 dn b hb := (hL.own b hb).elim (h.dn b) fun hz => Nat.le_trans h.pu.size hz
 rn := h.rn
theorem Duo.ref (h : Duo w0 w d val r rv σ ρ) (hL : zQ1 w w' r r' rv') (ha : zQa r' rv' = τ) : Duo w0 w' d val r' rv' σ τ where
 pu := h.pu.andNew hL.fr fun i hi => h.rn i hi
 da := h.da.fr hL.fr fun b hb hr => hr (h.ap b hb)
 ra := hL.sys
 dab := h.dab
 rab := ha
 ap b hb := by
  cases e : r'.o b with
  | none => rfl
  | some κ =>
   rcases hL.own b (by rw [e]; simp) with h1 | h1
   ·exact absurd (h.ap b hb) h1
   ·exact absurd (h.da.bd.out h1) hb
 dn := h.dn
 rn b hb := (hL.own b hb).elim (h.rn b) fun hz => Nat.le_trans h.pu.size hz
theorem Duo.plus (h : Duo w0 w d val r rv σ ρ) (hp : Pu w w') : Duo w0 w' d val r rv σ ρ := ⟨h.pu.trans hp, h.da.pu hp, h.ra.pu hp, h.dab, h.rab, h.ap, h.dn, h.rn⟩
structure zKl (w : World) (d r : zQr) (b : Nat) (X : Obj) : Prop where
 blk : w.heap[b]? = some X
 nd : d.o b = none
 nr : r.o b = none
theorem zKl.lt {b : Nat} {X : Obj} (h : zKl w d r b X) : b < w.heap.size := (Array.getElem?_eq_some_iff.1 h.blk).1
theorem zKl.pu {b : Nat} {c : Array Value} {e : TypeId} {f : Nat × Nat} (h : zKl w d r b (.cells c e f)) (hp : Pu w w') : zKl w' d r b (.cells c e f) := ⟨hp.blk h.blk, h.nd, h.nr⟩
theorem zKl.pgm {b : Nat} {c : Array Value} {e : TypeId} {f : Nat × Nat} {mu : Int} (h : zKl w d r b (.cells c e f)) (hL : zQ4 w w' d d' mu val') : zKl w' d' r b (.cells c e f) := by
 refine ⟨hL.fr.blk h.blk fun e => e h.nd, ?_, h.nr⟩
 cases e : d'.o b with
 | none => rfl
 | some κ =>
  rcases hL.own b (by rw [e]; simp) with h1 | h1
  ·exact absurd h.nd h1
  ·have := h.lt; omega
theorem zKl.ref {b : Nat} {c : Array Value} {e : TypeId} {f : Nat × Nat} (h : zKl w d r b (.cells c e f)) (hL : zQ1 w w' r r' rv') : zKl w' d r' b (.cells c e f) := by
 refine ⟨hL.fr.blk h.blk fun e => e h.nr, h.nd, ?_⟩
 cases e : r'.o b with
 | none => rfl
 | some κ =>
  rcases hL.own b (by rw [e]; simp) with h1 | h1
  ·exact absurd h.nr h1
  ·have := h.lt; omega
theorem Duo.aside (h : Duo w0 w d val r rv σ ρ) {c : Array Value} {e : TypeId} {b : Nat} (hp : Pu w w') (hb : w'.heap[b]? = some (.cells c e)) (hz : w.heap.size <= b) : zKl w' d r b (.cells c e) := ⟨hb, h.da.bd.out hz, h.ra.bd.out hz⟩
def PlP (w0 w' : World) (d r : zQr) : Prop := ∃ d' val' r' rv' σ' ρ', d'.S = d.S /\ r'.S = r.S /\ Duo w0 w' d' val' r' rv' σ' ρ' /\ Eqv σ' ρ' /\ Inv σ' /\ Inv ρ' /\ Md ρ'
theorem zVT {w26 : World} {r11 f : Nat} {args : Array Value} {v : Val} {n : Int} (hb11 : w26.heap[r11]? = some (.cells #[.int .i64 v.kind, .int .i64 v.n, .string v.s] 28)) (hC : Calls prog f args w26 fun e w' => e = .returned (.tuple #[zZc v, .int .i64 n]) /\ Pu w26 w') {Q : World -> Prop} (hQ : ∀ y, Pu w26 y -> Q y) :
  Calls prog f args w26 fun e w27 => ∃ n161_0_0 : Int, ∃ n161_0_1 : Int, ∃ s161_0_2 : ByteArray, ∃ n161_1 : Int, e = .returned (.tuple #[.agg #[.int .i64 n161_0_0, .int .i64 n161_0_1, .string s161_0_2], .int .i64 n161_1]) /\
   alE (.cells #[.int .i64 0, .int .i64 0, .string (⟨#[]⟩ : ByteArray)] 28) w27 fun r13 w28 => stA prog 28 (⟨r13, 0, none⟩ : Addr) #[.int .i64 n161_0_0, .int .i64 n161_0_1, .string s161_0_2] w28 fun w29 =>
   ∃ n164_0 : Int, w29.cell? ((⟨r11, 0, none⟩ : Addr).add 0) = some (.int .i64 n164_0) /\ ∃ n164_1 : Int, w29.cell? ((⟨r11, 0, none⟩ : Addr).add 1) = some (.int .i64 n164_1) /\ ∃ s164_2 : ByteArray, w29.cell? ((⟨r11, 0, none⟩ : Addr).add 2) = some (.string s164_2) /\
   ∃ n165_0 : Int, w29.cell? ((⟨r13, 0, none⟩ : Addr).add 0) = some (.int .i64 n165_0) /\ ∃ n165_1 : Int, w29.cell? ((⟨r13, 0, none⟩ : Addr).add 1) = some (.int .i64 n165_1) /\ ∃ s165_2 : ByteArray, w29.cell? ((⟨r13, 0, none⟩ : Addr).add 2) = some (.string s165_2) /\
   Calls prog 19 #[.agg #[.int .i64 n164_0, .int .i64 n164_1, .string s164_2], .agg #[.int .i64 n165_0, .int .i64 n165_1, .string s165_2]] w29 fun e w30 => ∃ b166 : Bool, e = .returned (.bool b166) /\
   Br b166 (Ending.returned (.bool (n == n161_1)) = .returned (.bool true) /\ Q w30) (Ending.returned (.bool false) = .returned (.bool true) /\ Q w30) := by
 refine hC.mono ?_
 rintro e w27 ⟨rfl, hp27⟩
 refine ⟨_, _, _, _, rfl, alB fun w28 hp28 hb28 => zQl hb28 zKR.symm rfl rfl fun w29 hb29 hf29 _ => ?_⟩
 have hp29 : Pu w27 w29 := hp28.andNew hf29 fun i hi => by rw [show i = w27.heap.size from hi]; exact Nat.le_refl _
 have h11 := hp29.blk (hp27.blk hb11)
 refine ⟨_, cl h11 0, _, cl h11 1, _, cl h11 2, _, cl hb29 0, _, cl hb29 1, _, cl hb29 2, (zXN v v w29).mono ?_⟩
 rintro e w30 ⟨rfl, hp30⟩
 exact ⟨_, rfl, Br.of (fun _ => ⟨by simp, hQ _ ((hp27.trans hp29).trans hp30)⟩) (fun c => by simp at c)⟩
end
theorem yXl {w0 w : World} {d r : zQr} {val rv : Nat -> List Val} {σ ρ : Dsk} (h : Duo w0 w d val r rv σ ρ) (hE : Eqv σ ρ) (hI : Inv σ) (hIr : Inv ρ) (hMr : Md ρ) (x : Act) : Calls prog 26 #[d.ptr, r.ptr, actA x] w fun e w' => e = .returned (.bool true) /\ PlP w0 w' d r := by
 obtain rfl := h.dab
 obtain rfl := h.rab
 refine yKT _ _ _ _ _ _ _ _ w _ (alB fun w1 hp1 hb1 => ?_)
 have h1 := h.plus hp1
 have A1 : zKl w1 d r w.heap.size (.cells #[.int .i64 x.op, .int .i64 x.a, .int .i64 x.b, .int .i64 x.c, .string x.s, .string x.t] 51) := h.aside hp1 hb1 (Nat.le_refl _)
 have fin : ∀ {w4 : World} {d3 r4 : zQr} {v3 rv4 : Nat -> List Val} {τ τ' : Dsk}, Duo w0 w4 d3 v3 r4 rv4 τ τ' -> Eqv τ τ' -> d3.S = d.S -> r4.S = r.S -> Inv τ -> Inv τ' -> Md τ' -> PlP w0 w4 d r := fun {w4 d3 r4 v3 rv4 τ τ'} D e hd hr hi hj hm =>
  ⟨_, _, _, _, _, _, hd, hr, D, e, hi, hj, hm⟩
 have stay : ∀ {w4 : World} , Duo w0 w4 d val r rv (zQa d val) (zQa r rv) -> PlP w0 w4 d r := fun {w4} D => ⟨_, _, _, _, _, _, rfl, rfl, D, hE, hI, hIr, hMr⟩
 have S1 : ∀ (y : World), y.heap[w.heap.size]? = some (.cells #[.int .i64 x.op, .int .i64 x.a, .int .i64 x.b, .int .i64 x.c, .string x.s, .string x.t] 51) -> y.cell? ((⟨w.heap.size, 0, none⟩ : Addr).add 1) = some (.int .i64 x.a) := fun y hy => cl hy 1
 have S2 : ∀ (y : World), y.heap[w.heap.size]? = some (.cells #[.int .i64 x.op, .int .i64 x.a, .int .i64 x.b, .int .i64 x.c, .string x.s, .string x.t] 51) -> y.cell? ((⟨w.heap.size, 0, none⟩ : Addr).add 2) = some (.int .i64 x.b) := fun y hy => cl hy 2
 refine ⟨x.op, cl0 hb1, rfl, by decide, rfl, by decide, Br.of (fun _ => zQf fun w2 hp2 _ => ?_) (fun _ => Br.of (fun _ => zQf fun w2 hp2 _ => ?_) (fun _ => Br.of (fun _ => zQf fun w2 hp2 _ => ?_) (fun _ => Br.of (fun _ => zQf fun w2 hp2 _ => ?_) (fun _ => Br.of (fun _ => ?_) (fun _ => Br.of (fun _ => ?_) (fun _ =>
  Br.of (fun _ => ?_) (fun _ => Br.of (fun _ => ?_) (fun _ => Br.of (fun _ => ?_) (fun _ => Br.of (fun _ => ?_) (fun _ => Br.of (fun _ => zQf fun w2 hp2 _ => ?_) (fun _ => Br.of (fun _ => ?_) (fun _ => Br.of (fun _ => ?_) (fun _ => ?_)))))))))))))⟩
 ·
  have h2 := h1.plus hp2
  have A2 := A1.pu hp2
  refine ⟨fun y => y.heap[w.heap.size]? = some (.cells #[.int .i64 x.op, .int .i64 x.a, .int .i64 x.b, .int .i64 x.c, .string x.s, .string x.t] 51), A2.blk, _, S1, _, S2, _, S1, _, S2, (xQl h2.da x.a x.b).mono ?_⟩
  rintro e w3 ⟨rfl, d3, hL3, ha3⟩
  have h3 := h2.pgm hL3 ha3
  refine ⟨_, rfl, (A2.pgm hL3).blk, (xXG h3.ra hIr x.a x.b).mono ?_⟩
  rintro e w4 ⟨rfl, r4, hL4, ha4⟩
  rw [← hE.modeC]
  exact ⟨_, rfl, by simp, fin (h3.ref hL4 ha4) (hE.modeS _ _) hL3.ptr hL4.ptr (hI.mode _ _) (hIr.mode _ _) (hMr.mode _ _)⟩
 ·
  have h2 := h1.plus hp2
  have A2 := A1.pu hp2
  refine ⟨fun y => y.heap[w.heap.size]? = some (.cells #[.int .i64 x.op, .int .i64 x.a, .int .i64 x.b, .int .i64 x.c, .string x.s, .string x.t] 51), A2.blk, _, S1, _, S2, _, S1, _, S2, (go_c h2.da hI x.a x.b).mono ?_⟩
  rintro e w3 ⟨rfl, d3, v3, hL3, ha3⟩
  have h3 := h2.pgm hL3 ha3
  refine ⟨_, rfl, (A2.pgm hL3).blk, (rGo_c h3.ra hIr x.a x.b).mono ?_⟩
  rintro e w4 ⟨rfl, r4, rv4, hL4, ha4⟩
  rw [← hE.goC]
  exact ⟨_, rfl, by simp, fin (h3.ref hL4 ha4) (hE.goS _ _) hL3.ptr hL4.ptr (hI.go _ _) (hIr.go _ _) (hMr.same (ms_go _ _))⟩
 ·
  have h2 := h1.plus hp2
  have A2 := A1.pu hp2
  refine ⟨fun y => y.heap[w.heap.size]? = some (.cells #[.int .i64 x.op, .int .i64 x.a, .int .i64 x.b, .int .i64 x.c, .string x.s, .string x.t] 51), A2.blk, _, S1, x.s, fun y hy => cl hy 4, _, fun y hy => cl hy 0, _, S1, _, S2, _, fun y hy => cl hy 3, _, fun y hy => cl hy 4, _, fun y hy => cl hy 5,
   _, S1, x.s, fun y hy => cl hy 4, _, fun y hy => cl hy 0, _, S1, _, S2, _, fun y hy => cl hy 3, _, fun y hy => cl hy 4, _, fun y hy => cl hy 5, (xQs x w2).mono ?_⟩
  rintro e w3 ⟨rfl, hp3⟩
  have h3 := h2.plus hp3
  have A3 := A2.pu hp3
  refine ⟨_, _, _, rfl, A3.blk, (set_c h3.da hI x.a x.s (actV x)).mono ?_⟩
  rintro e w4 ⟨rfl, d4, v4, hL4, ha4⟩
  have h4 := h3.pgm hL4 ha4
  have A4 := A3.pgm hL4
  refine ⟨_, rfl, A4.blk, (xQs x w4).mono ?_⟩
  rintro e w5 ⟨rfl, hp5⟩
  have h5 := h4.plus hp5
  refine ⟨_, _, _, rfl, (A4.pu hp5).blk, (rSet_c h5.ra hIr hMr x.a x.s (actV x)).mono ?_⟩
  rintro e w6 ⟨rfl, r6, rv6, hL6, ha6⟩
  rw [← hE.setC]
  exact ⟨_, rfl, by simp, fin (h5.ref hL6 ha6) (hE.setS _ _ _) hL4.ptr hL6.ptr (hI.set _ _ _) (hIr.set _ _ _) (hMr.same (xXE _ _ _))⟩
 ·
  have h2 := h1.plus hp2
  have A2 := A1.pu hp2
  refine ⟨fun y => y.heap[w.heap.size]? = some (.cells #[.int .i64 x.op, .int .i64 x.a, .int .i64 x.b, .int .i64 x.c, .string x.s, .string x.t] 51), A2.blk, _, S1, _, S2, _, S1, _, S2, (mark_c h2.da hI x.a (decide (x.b > 0))).mono ?_⟩
  rintro e w3 ⟨rfl, d3, v3, hL3, ha3⟩
  have h3 := h2.pgm hL3 ha3
  refine ⟨_, rfl, (A2.pgm hL3).blk, (xZe h3.ra hIr hMr x.a (decide (x.b > 0))).mono ?_⟩
  rintro e w4 ⟨rfl, r4, rv4, hL4, ha4⟩
  rw [← hE.markC]
  exact ⟨_, rfl, by simp, fin (h3.ref hL4 ha4) (hE.markS _ _) hL3.ptr hL4.ptr (hI.mark _ _) (hIr.mark _ _) (hMr.same (xZt _ _))⟩
 ·
  refine ⟨_, S1 _ A1.blk, (yYc h1.da hI x.a).mono ?_⟩
  rintro e w3 ⟨rfl, d3, v3, hL3, ha3⟩
  have h3 := h1.pgm hL3 ha3
  refine ⟨_, _, rfl, _, S1 _ (A1.pgm hL3).blk, Calls.mono (yWo h3.ra hIr x.a) ?_⟩
  rintro e w4 ⟨rfl, r4, rv4, hL4, ha4⟩
  rw [← hE.appC, ← hE.appN]
  have P := fin (h3.ref hL4 ha4) (hE.appS _) hL3.ptr hL4.ptr (hI.app _) (hIr.app _) (hMr.same (ms_app _))
  exact ⟨_, _, rfl, Br.of (fun _ => ⟨by simp, P⟩) (fun c => by simp at c)⟩
 ·
  refine ⟨_, S1 _ A1.blk, _, S2 _ A1.blk, x.s, cl A1.blk 4, (get_c h1.da hI x.a x.b x.s).mono ?_⟩
  rintro e w3 ⟨rfl, hL3⟩
  have h3 := h1.pgm hL3 rfl
  have A3 := A1.pgm hL3
  refine ⟨_, _, _, _, rfl, alB fun w4 hp4 hb4 => zQl hb4 zKR.symm rfl rfl fun w5 hb5 hf5 _ => ?_⟩
  have hp35 : Pu w3 w5 := hp4.andNew hf5 fun i hi => by rw [show i = w3.heap.size from hi]; exact Nat.le_refl _
  have h5 := h3.plus hp35
  have A5 := A3.pu hp35
  refine ⟨_, S1 _ A5.blk, _, S2 _ A5.blk, x.s, cl A5.blk 4, ?_⟩
  have hC := rGet_c h5.ra hIr x.a x.b x.s
  rw [← hE.getR] at hC
  exact zVT hb5 hC (Q := fun y => PlP w0 y d r) fun y hy => stay (h5.plus hy)
 ·
  refine ⟨_, S1 _ A1.blk, _, S2 _ A1.blk, x.s, cl A1.blk 4, (old_c h1.da hI x.a x.b x.s).mono ?_⟩
  rintro e w3 ⟨rfl, hL3⟩
  have h3 := h1.pgm hL3 rfl
  have A3 := A1.pgm hL3
  refine ⟨_, _, _, _, rfl, alB fun w4 hp4 hb4 => zQl hb4 zKR.symm rfl rfl fun w5 hb5 hf5 _ => ?_⟩
  have hp35 : Pu w3 w5 := hp4.andNew hf5 fun i hi => by rw [show i = w3.heap.size from hi]; exact Nat.le_refl _
  have h5 := h3.plus hp35
  have A5 := A3.pu hp35
  refine ⟨_, S1 _ A5.blk, _, S2 _ A5.blk, x.s, cl A5.blk 4, ?_⟩
  have hC := rOld_c h5.ra hIr x.a x.b x.s
  rw [← hE.oldR] at hC
  exact zVT hb5 hC (Q := fun y => PlP w0 y d r) fun y hy => stay (h5.plus hy)
 ·
  refine ⟨_, S2 _ A1.blk, x.s, cl A1.blk 4, (now_c h1.da hI x.b x.s).mono ?_⟩
  rintro e w3 ⟨rfl, hL3⟩
  have h3 := h1.pgm hL3 rfl
  have A3 := A1.pgm hL3
  refine ⟨_, _, _, _, rfl, alB fun w4 hp4 hb4 => zQl hb4 zKR.symm rfl rfl fun w5 hb5 hf5 _ => ?_⟩
  have hp35 : Pu w3 w5 := hp4.andNew hf5 fun i hi => by rw [show i = w3.heap.size from hi]; exact Nat.le_refl _
  have h5 := h3.plus hp35
  have A5 := A3.pu hp35
  refine ⟨_, S2 _ A5.blk, x.s, cl A5.blk 4, ?_⟩
  have hC := rNow_c h5.ra hIr x.b x.s
  rw [← hE.nowR] at hC
  exact zVT hb5 hC (Q := fun y => PlP w0 y d r) fun y hy => stay (h5.plus hy)
 ·
  refine ⟨_, S1 _ A1.blk, _, S2 _ A1.blk, (zVE h1.da hI x.a (decide (x.b > 0))).mono ?_⟩
  rintro e w3 ⟨q3, rfl, hN3, d3, v3, hL3, ha3⟩
  have h3 := h1.pgm hL3 ha3
  have A3 := A1.pgm hL3
  refine ⟨q3, _, rfl, _, S1 _ A3.blk, _, S2 _ A3.blk, Calls.mono (zVM h3.ra hIr x.a (decide (x.b > 0))) ?_⟩
  rintro e w4 ⟨q4, rfl, hN4, r4, rv4, hL4, ha4⟩
  rw [← hE.storeE]
  rw [← hE.storeEL] at hN4
  have hN3' := hN3.fr hL4.fr fun b hb hb2 => hb2 (h1.ra.bd.out (hN3.2 b hb))
  refine ⟨q4, _, rfl, (zKq hN3' hN4).mono ?_⟩
  rintro e w5 ⟨rfl, hp5⟩
  have P := fin ((h3.ref hL4 ha4).plus hp5) (hE.storeES _ _) hL3.ptr hL4.ptr (hI.storeE _ _) (hIr.storeE _ _) (hMr.same (yVd _ _))
  exact ⟨_, rfl, Br.of (fun _ => ⟨by simp, P⟩) (fun c => by cases c)⟩
 ·
  refine ⟨_, S1 _ A1.blk, (yV5 h1.da hI x.a).mono ?_⟩
  rintro e w3 ⟨rfl, d3, hL3, ha3⟩
  have h3 := h1.pgm hL3 ha3
  refine ⟨_, _, rfl, _, S1 _ (A1.pgm hL3).blk, (zYi h3.ra hIr x.a).mono ?_⟩
  rintro e w4 ⟨rfl, r4, rv4, hL4, ha4⟩
  rw [← hE.revertN]
  have P := fin (h3.ref hL4 ha4) (hE.revertS _) hL3.ptr hL4.ptr (hI.revert _) (hIr.revert _) (hMr.same (yJ6 _))
  exact ⟨_, _, rfl, Br.of (fun _ => ⟨by simp, P⟩) (fun c => by simp at c)⟩
 ·
  have h2 := h1.plus hp2
  have A2 := A1.pu hp2
  refine ⟨fun y => y.heap[w.heap.size]? = some (.cells #[.int .i64 x.op, .int .i64 x.a, .int .i64 x.b, .int .i64 x.c, .string x.s, .string x.t] 51), A2.blk, _, S1, _, S1, (fall_c h2.da hI x.a).mono ?_⟩
  rintro e w3 ⟨rfl, d3, hL3, ha3⟩
  have h3 := h2.pgm hL3 ha3
  refine ⟨_, rfl, (A2.pgm hL3).blk, (xZc h3.ra hIr x.a).mono ?_⟩
  rintro e w4 ⟨rfl, r4, rv4, hL4, ha4⟩
  exact ⟨_, rfl, by simp, fin (h3.ref hL4 ha4) (hE.fallS _) hL3.ptr hL4.ptr (hI.fall _) (hIr.fall _) (hMr.fall _)⟩
 ·
  refine ⟨_, S2 _ A1.blk, (yVP h1.da x.b).mono ?_⟩
  rintro e w3 ⟨rfl, hL3⟩
  have h3 := h1.pgm hL3 rfl
  have A3 := A1.pgm hL3
  refine ⟨_, _, _, rfl, _, S2 _ A3.blk, (yJf h3.ra hIr x.b).mono ?_⟩
  rintro e w4 ⟨rfl, hp4⟩
  rw [← hE.lockedR]
  have P := stay (h3.plus hp4)
  exact ⟨_, _, _, rfl, Br.of (fun _ => Br.of (fun _ => ⟨by simp, P⟩) (fun c => by simp at c)) (fun c => by simp at c)⟩
 ·
  refine ⟨_, S1 _ A1.blk, (yKI h1.da hI x.a).mono ?_⟩
  rintro e w3 ⟨q3, rfl, hN3, hL3⟩
  have h3 := h1.pgm hL3 rfl
  have A3 := A1.pgm hL3
  refine ⟨q3, _, rfl, _, S1 _ A3.blk, (yZh h3.ra hIr x.a).mono ?_⟩
  rintro e w4 ⟨q4, rfl, hN4, hp4⟩
  rw [← hE.changedL] at hN4
  refine ⟨q4, _, rfl, (zKq (hN3.pu hp4) hN4).mono ?_⟩
  rintro e w5 ⟨rfl, hp5⟩
  have P := stay ((h3.plus hp4).plus hp5)
  exact ⟨_, rfl, Br.of (fun _ => ⟨by simp, P⟩) (fun c => by cases c)⟩
 ·
  refine ⟨_, S1 _ A1.blk, (yJI h1.da hI x.a).mono ?_⟩
  rintro e w3 ⟨q3, rfl, hN3, hL3⟩
  have h3 := h1.pgm hL3 rfl
  have A3 := A1.pgm hL3
  refine ⟨q3, _, rfl, _, S1 _ A3.blk, (zVa h3.ra hIr x.a).mono ?_⟩
  rintro e w4 ⟨q4, rfl, hN4, hp4⟩
  rw [← hE.clashesL] at hN4
  refine ⟨q4, _, rfl, (zKq (hN3.pu hp4) hN4).mono ?_⟩
  rintro e w5 ⟨rfl, hp5⟩
  have P := stay ((h3.plus hp4).plus hp5)
  exact ⟨_, rfl, Br.of (fun _ => ⟨by simp, P⟩) (fun c => by cases c)⟩
end Go.Proofs.YtcihcbfcgjepfaaGreatDoor
/- Desks: the law on what each call tells. No condition but those stated. -/
namespace Go.Proofs.YtcihcbfcgjepfaaGreatDoor
open Go.Sh Go.RowKit Tryz
theorem yK5 (S : Nat) (x y : Operand) (w : World) : (eqS .eql 59 x y (.pointer (some ⟨S, 0, none⟩)) (.pointer none)).run prog w = .ok (.bool false) w := zXR (show prog.underlying 59 = some (.pointer 125) by kernel_rfl) _ _ _ w
theorem xXC {w : World} {t : Tbl} {f r : SV} (h : zK1 w t f r) (hl : Lim.ok t.fields) : Calls prog 25 #[zYv t f r] w fun e w' => Pu w w' /\ (zXt t ≠ 0 -> e = .returned (.tuple #[.pointer none, .pointer none, .bool true])) /\
  (zXt t = 0 -> ∃ d val r rv, e = .returned (.tuple #[d.ptr, r.ptr, .bool true]) /\ Duo w w' d val r rv (Dsk.new t) (Dsk.new t)) := by
 refine yWf _ _ _ w _ (alB fun w1 hp1 hb1 => ?_)
 refine ⟨_, cl hb1 0, f, cl hb1 1, r, cl hb1 2, (new_c (h.pu hp1) hl).mono ?_⟩
 rintro e w2 ⟨hp2, hbad, hgood⟩
 have hb2 := hp2.blk hb1
 have hp02 := hp1.trans hp2
 by_cases hv : zXt t = 0
 ·obtain ⟨d, val, rfl, hD, habs, hnew⟩ := hgood hv
  refine ⟨some ⟨d.S, 0, none⟩, 0, rfl, _, cl hb2 0, f, cl hb2 1, r, cl hb2 2, (xQW (h.pu hp02)).mono ?_⟩
  rintro e w3 ⟨hp3, -, hgood3⟩
  obtain ⟨r', rv, rfl, hR, habr, hnewr⟩ := hgood3 hv
  have hp03 := hp02.trans hp3
  have D : Duo w w3 d val r' rv (Dsk.new t) (Dsk.new t) := ⟨hp03, hD.pu hp3, hR, habs, habr, fun b hb => by
   cases e : r'.o b with
   | none => rfl
   | some κ =>
    have h1 := hnewr b (by rw [e]; simp)
    have h2 := hD.bd.lt b hb
    omega, fun b hb => Nat.le_trans hp1.size (hnew b hb), fun b hb => Nat.le_trans hp02.size (hnewr b hb)⟩
  refine ⟨some ⟨r'.S, 0, none⟩, 0, rfl, Br.of (fun _ => ?_) (fun c => by simp at c)⟩
  exact ⟨false, w3, yWt _ _ _ w3, false, w3, yK5 _ _ _ w3, hp03, fun e => absurd hv e, fun _ => ⟨d, val, r', rv, rfl, D⟩⟩
 ·rw [hbad hv]
  refine ⟨none, _, rfl, _, cl hb2 0, f, cl hb2 1, r, cl hb2 2, (xQW (h.pu hp02)).mono ?_⟩
  rintro e w3 ⟨hp3, hbad3, -⟩
  rw [hbad3 hv]
  have hp03 := hp02.trans hp3
  refine ⟨none, _, rfl, Br.of (fun _ => ?_) (fun c => by simp at c)⟩
  exact ⟨true, w3, zXR bu32 _ _ none w3, true, w3, zXR (show prog.underlying 59 = some (.pointer 125) by kernel_rfl) _ _ none w3, hp03, fun _ => rfl, fun e => absurd e hv⟩
theorem Duo.same {w0 w : World} {d r : zQr} {val rv : Nat -> List Val} {σ ρ : Dsk} (h : Duo w0 w d val r rv σ ρ) (hE : Eqv σ ρ) (hI : Inv σ) (hIr : Inv ρ) {K : Rt} (hK : ∀ y, Pu w0 y -> K (.returned (.bool true)) y) :
  Calls prog 24 #[d.ptr] w fun e w1 => ∃ n44_0 : Int, ∃ l44_1 : SV, ∃ l44_2 : SV, e = .returned (.agg #[.int .i64 n44_0, .slice l44_1.a l44_1.len l44_1.cap, .slice l44_2.a l44_2.len l44_2.cap]) /\
   Calls prog 27 #[r.ptr] w1 fun e w2 => ∃ n46_0 : Int, ∃ l46_1 : SV, ∃ l46_2 : SV, e = .returned (.agg #[.int .i64 n46_0, .slice l46_1.a l46_1.len l46_1.cap, .slice l46_2.a l46_2.len l46_2.cap]) /\
   Calls prog 23 #[.agg #[.int .i64 n44_0, .slice l44_1.a l44_1.len l44_1.cap, .slice l44_2.a l44_2.len l44_2.cap], .agg #[.int .i64 n46_0, .slice l46_1.a l46_1.len l46_1.cap, .slice l46_2.a l46_2.len l46_2.cap]] w2 fun e w3 => ∃ b47 : Bool, e = .returned (.bool b47) /\
   Br b47 (Calls prog 10 #[] w3 fun e w4 => ∃ b49 : Bool, e = .returned (.bool b49) /\ K (.returned (.bool b49)) w4) (K (.returned (.bool false)) w3) := by
 obtain rfl := h.dab
 obtain rfl := h.rab
 have eT : (zQa r rv).tbl = (zQa d val).tbl := by unfold Dsk.tbl; rw [hE.pg, hE.fl, hE.rc]
 refine (xX4 h.da hI).mono ?_
 rintro e w1 ⟨f1, r1, rfl, hT1, hL1, -⟩
 have h1 := h.pgm hL1 rfl
 refine ⟨_, f1, r1, rfl, (yQT h1.ra hIr).mono ?_⟩
 rintro e w2 ⟨f2, r2, rfl, hT2, hp2⟩
 rw [eT] at hT2 ⊢
 refine ⟨_, f2, r2, rfl, (xZg (hT1.pu hp2) hT2 (by have := hI.r300; show (zQa d val).recs.length <= _; omega)).mono ?_⟩
 rintro e w3 ⟨rfl, hp3⟩
 refine ⟨_, rfl, Br.of (fun _ => (yK8 w3).mono ?_) (fun c => by simp at c)⟩
 rintro e w4 ⟨rfl, hp4⟩
 exact ⟨true, rfl, hK _ (((h1.pu.trans hp2).trans hp3).trans hp4)⟩
theorem xXS {w0 w : World} {d r : zQr} {val rv : Nat -> List Val} {σ ρ : Dsk} (h : Duo w0 w d val r rv σ ρ) (hE0 : Eqv σ ρ) (hI : Inv σ) (hIr : Inv ρ) (hM : Md ρ) {s : SV} {l : List Act} (hs : zXI w0 s l) {F : (Int -> World -> Prop) -> Int -> World -> Prop} {E : World -> Prop} {B : World -> Prop}
  (hF : ∀ (J : Int -> World -> Prop) (n : Int) (w : World), F J n w ↔ Br (decide (n < ((s.len : Nat) : Int))) (∃ a7 : Addr, s.a = some a7 /\ 0 <= n /\ n < ((s.len : Nat) : Int) /\ ∃ n40_0 : Int, w.cell? ((a7.add (n.toNat * 6)).add 0) = some (.int .i64 n40_0) /\ ∃ n40_1 : Int, w.cell? ((a7.add (n.toNat * 6)).add 1) = some (.int .i64 n40_1) /\
   ∃ n40_2 : Int, w.cell? ((a7.add (n.toNat * 6)).add 2) = some (.int .i64 n40_2) /\ ∃ n40_3 : Int, w.cell? ((a7.add (n.toNat * 6)).add 3) = some (.int .i64 n40_3) /\ ∃ s40_4 : ByteArray, w.cell? ((a7.add (n.toNat * 6)).add 4) = some (.string s40_4) /\ ∃ s40_5 : ByteArray, w.cell? ((a7.add (n.toNat * 6)).add 5) = some (.string s40_5) /\
   Calls prog 26 #[.pointer (some ⟨d.S, 0, none⟩), .pointer (some ⟨r.S, 0, none⟩), .agg #[.int .i64 n40_0, .int .i64 n40_1, .int .i64 n40_2, .int .i64 n40_3, .string s40_4, .string s40_5]] w fun e w8 => ∃ b41 : Bool, e = .returned (.bool b41) /\ Br (!b41) (B w8) (J (IntKind.i64.wrap (n + 1)) w8)) (E w))
  (hE : ∀ y, PlP w0 y d r -> E y) : zQD F 0 w := by
 have hlen := hs.len
 have hlim := hs.lim
 refine zQz l.length (fun k t w' => t = (k : Int) /\ PlP w0 w' d r) ⟨rfl, _, _, _, _, _, _, rfl, rfl, h, hE0, hI, hIr, hM⟩ ?_
 rintro k J t w1 hk ⟨ht, hP⟩ hJ
 obtain rfl : t = (k : Int) := ht
 refine (hF _ _ _).2 (Br.of (fun d1 => ?_) (fun _ => hE _ hP))
 have hk2 : k < l.length := by have := zQn d1; omega
 obtain ⟨x, hx⟩ := zXg hk2
 obtain ⟨d1, v1, r1, rv1, τ, τ', eS, eS', D, hE1, hI1, hJ1, hM1⟩ := hP
 obtain ⟨a, ha, hi, hok, c0, c1, c2, c3, c4, c5⟩ := actAt (hs.pu D.pu) hx
 refine ⟨a, ha, by omega, by omega, x.op, by rw [zQL]; exact c0, x.a, by rw [zQL]; exact c1, x.b, by rw [zQL]; exact c2, x.c, by rw [zQL]; exact c3, x.s, by rw [zQL]; exact c4, x.t, by rw [zQL]; exact c5, ?_⟩
 rw [← eS, ← eS']
 refine (yXl D hE1 hI1 hJ1 hM1 x).mono ?_
 rintro e w8 ⟨rfl, d2, v2, r2, rv2, τ2, τ2', e2, e2', D2, hE2, hI2, hJ2, hM2⟩
 refine ⟨true, rfl, Br.of (fun c => by cases c) (fun _ => ?_)⟩
 rw [zQc (by omega) (by omega)]
 exact hJ _ _ hk2 ⟨by omega, d2, v2, r2, rv2, τ2, τ2', e2.trans eS, e2'.trans eS', D2, hE2, hI2, hJ2, hM2⟩
end Go.Proofs.YtcihcbfcgjepfaaGreatDoor
/- Desks: the law on what each user sees behind a script. No condition but those stated. -/
namespace Go.Proofs.YtcihcbfcgjepfaaGreatDoor
open Go.Sh Go.RowKit Tryz
theorem PlP.pu {w0 w : World} {d r : zQr} (h : PlP w0 w d r) : Pu w0 w := by
 obtain ⟨_, _, _, _, _, _, _, _, D, _⟩ := h
 exact D.pu
theorem PlP.plus {w0 w w' : World} {d r : zQr} (h : PlP w0 w d r) (hp : Pu w w') : PlP w0 w' d r := by
 obtain ⟨d1, v1, r1, rv1, τ, τ', e, e', D, hE, hI, hJ, hM⟩ := h
 exact ⟨d1, v1, r1, rv1, τ, τ', e, e', D.plus hp, hE, hI, hJ, hM⟩
theorem PlP.act {w0 w : World} {d r : zQr} (h : PlP w0 w d r) (x : Act) : Calls prog 26 #[.pointer (some ⟨d.S, 0, none⟩), .pointer (some ⟨r.S, 0, none⟩), actA x] w fun e w' => e = .returned (.bool true) /\ PlP w0 w' d r := by
 obtain ⟨d1, v1, r1, rv1, τ, τ', eS, eS', D, hE, hI, hJ, hM⟩ := h
 rw [← eS, ← eS']
 refine (yXl D hE hI hJ hM x).mono ?_
 rintro e w8 ⟨rfl, d2, v2, r2, rv2, τ2, τ2', e2, e2', D2, hE2, hI2, hJ2, hM2⟩
 exact ⟨rfl, d2, v2, r2, rv2, τ2, τ2', e2.trans eS, e2'.trans eS', D2, hE2, hI2, hJ2, hM2⟩
theorem PlP.tbl {w0 w : World} {d r : zQr} (h : PlP w0 w d r) : Calls prog 27 #[.pointer (some ⟨r.S, 0, none⟩)] w fun e w' => ∃ (t : Tbl) (f q : SV), e = .returned (zYv t f q) /\ q.len <= 1000000 /\ PlP w0 w' d r := by
 obtain ⟨d1, v1, r1, rv1, τ, τ', eS, eS', D, hE, hI, hJ, hM⟩ := h
 rw [← eS']
 have hIr : Inv (zQa r1 rv1) := by rw [D.rab]; exact hJ
 refine (yQT D.ra hIr).mono ?_
 rintro e w1 ⟨f, q, rfl, hT, hp⟩
 refine ⟨_, f, q, rfl, ?_, d1, v1, r1, rv1, τ, τ', eS, eS', D.plus hp, hE, hI, hJ, hM⟩
 have h1 := hT.rc.len
 have h2 := hIr.r300
 have h3 : (zQa r1 rv1).tbl.recs = (zQa r1 rv1).recs := rfl
 rw [h3] at h1
 omega
section
variable {w0 w : World} {d r : zQr} {r2 : Nat} {f q : SV} {pg : Int} {fl : List Fld} {R : Rt}
theorem yVQ {J1 J2 J3 : Int -> World -> Prop} (hP : PlP w0 w d r) (hb : w0.heap[r2]? = some (.cells #[.int .i64 pg, .slice f.a f.len f.cap, .slice q.a q.len q.cap] 25)) (hf : zXI w0 f fl) {u k : Int} {i : Nat} (hi : i < fl.length)
  (hJ : ∀ y, PlP w0 y d r -> J3 (IntKind.i64.wrap ((i : Int) + 1)) y) : F5_7 R J1 J2 J3 (some ⟨r2, 0, none⟩) (some ⟨d.S, 0, none⟩) (some ⟨r.S, 0, none⟩) u k (i : Int) 5 [] w := by
 refine zQz 3 (fun j t w' => t = (j : Int) + 5 /\ PlP w0 w' d r) ⟨rfl, hP⟩ ?_
 rintro j J t w1 hj ⟨ht, hP1⟩ hJ2
 obtain rfl : t = (j : Int) + 5 := ht
 have hlen := hf.len
 have hlim := hf.lim
 refine Br.of (fun d1 => ?_) (fun _ => hJ _ hP1)
 have hj2 : j < 3 := by have := zQn d1; omega
 have b1 := hP1.pu.blk hb
 obtain ⟨fd, hfd⟩ := zXg hi
 obtain ⟨a, ea, _, _, _, g, _⟩ := zZp (hf.pu hP1.pu) hfd
 refine ⟨f, cl b1 1, a, ea, by omega, by omega, fd.name, by rw [zQL]; exact g, (hP1.act ⟨(j : Int) + 5, u, k, 0, fd.name, ⟨#[]⟩⟩).mono ?_⟩
 rintro e w2 ⟨rfl, hP2⟩
 refine ⟨true, rfl, Br.of (fun c => by cases c) (fun _ => ?_)⟩
 rw [zQc (by omega) (by omega)]
 exact hJ2 _ _ hj2 ⟨by omega, hP2⟩
theorem yWg {J1 J2 : Int -> World -> Prop} (hP : PlP w0 w d r) (hb : w0.heap[r2]? = some (.cells #[.int .i64 pg, .slice f.a f.len f.cap, .slice q.a q.len q.cap] 25)) (hf : zXI w0 f fl) {u k : Int}
  (hJ : ∀ y, PlP w0 y d r -> J2 (IntKind.i64.wrap (k + 1)) y) : xX9 R J1 J2 (some ⟨r2, 0, none⟩) (some ⟨d.S, 0, none⟩) (some ⟨r.S, 0, none⟩) u k 0 [] w := by
 have hlen := hf.len
 have hlim := hf.lim
 refine zQz fl.length (fun i t w' => t = (i : Int) /\ PlP w0 w' d r) ⟨rfl, hP⟩ ?_
 rintro i J t w1 hi ⟨ht, hP1⟩ hJ2
 obtain rfl : t = (i : Int) := ht
 refine ⟨f, cl (hP1.pu.blk hb) 1, Br.of (fun d1 => ?_) (fun _ => hJ _ hP1)⟩
 have hi2 : i < fl.length := by have := zQn d1; omega
 refine yVQ hP1 hb hf hi2 fun y hy => ?_
 rw [zQc (by omega) (by omega)]
 exact hJ2 _ _ hi2 ⟨by omega, hy⟩
theorem yWb {J1 : Int -> World -> Prop} (hP : PlP w0 w d r) (hb : w0.heap[r2]? = some (.cells #[.int .i64 pg, .slice f.a f.len f.cap, .slice q.a q.len q.cap] 25)) (hf : zXI w0 f fl) {u : Int}
  (hJ : ∀ y, PlP w0 y d r -> F5_3 R J1 (some ⟨r2, 0, none⟩) (some ⟨d.S, 0, none⟩) (some ⟨r.S, 0, none⟩) u [] y) : xZp R J1 (some ⟨r2, 0, none⟩) (some ⟨d.S, 0, none⟩) (some ⟨r.S, 0, none⟩) u (-4) [] w := by
 refine zQz 17 (fun k t w' => t = (k : Int) - 4 /\ PlP w0 w' d r) ⟨rfl, hP⟩ ?_
 rintro k J t w1 hk ⟨ht, hP1⟩ hJ2
 obtain rfl : t = (k : Int) - 4 := ht
 refine hP1.tbl.mono ?_
 rintro e w2 ⟨T, f1, q1, rfl, hq1, hP2⟩
 refine ⟨_, f1, q1, rfl, min (IntKind.i64.wrap (((q1.len : Nat) : Int) + 1)) 12, w2, Go.Lib.run_min_ints w2 _ _ .i64 .i64 _ _, Br.of (fun d1 => ?_) (fun _ => hJ _ hP2)⟩
 have hk2 : k < 17 := by have := zQn d1; omega
 refine yWg hP2 hb hf fun y hy => ?_
 rw [zQc (n := (k : Int) - 4 + 1) (by omega) (by omega)]
 exact hJ2 _ _ hk2 ⟨by omega, hy⟩
theorem yZZ (hP : PlP w0 w d r) (hb : w0.heap[r2]? = some (.cells #[.int .i64 pg, .slice f.a f.len f.cap, .slice q.a q.len q.cap] 25)) (hf : zXI w0 f fl)
  (hR : ∀ y, PlP w0 y d r -> F5_1 R [] y) : xZk R (some ⟨r2, 0, none⟩) (some ⟨d.S, 0, none⟩) (some ⟨r.S, 0, none⟩) 0 [] w := by
 refine zQz 4 (fun u t w' => t = (u : Int) /\ PlP w0 w' d r) ⟨rfl, hP⟩ ?_
 rintro u J t w1 hu ⟨ht, hP1⟩ hJ2
 obtain rfl : t = (u : Int) := ht
 refine Br.of (fun d1 => ?_) (fun _ => hR _ hP1)
 have hu2 : u < 4 := by have := zQn d1; omega
 refine yWb hP1 hb hf fun y hy => ?_
 refine (hy.act ⟨12, (u : Int), 0, 0, ⟨#[]⟩, ⟨#[]⟩⟩).mono ?_
 rintro e w2 ⟨rfl, hP2⟩
 refine ⟨true, rfl, Br.of (fun c => by cases c) (fun _ => (hP2.act ⟨13, (u : Int), 0, 0, ⟨#[]⟩, ⟨#[]⟩⟩).mono ?_)⟩
 rintro e w3 ⟨rfl, hP3⟩
 refine ⟨true, rfl, Br.of (fun c => by cases c) (fun _ => ?_)⟩
 show J (IntKind.i64.wrap ((u : Int) + 1)) w3
 rw [zQc (by omega) (by omega)]
 exact hJ2 _ _ hu2 ⟨by omega, hP3⟩
end
theorem yKR (w : World) (t : Tbl) (f r : SV) (h : zK1 w t f r) (hl : Lim.ok t) (s : SV) (l : List Act) (hs : zXI w s l) (_ : Lim.ok l) : Calls prog 5 #[zYv t f r, .slice s.a s.len s.cap] w fun e w' => e = .returned (.bool true) /\ Pu w w' := by
 refine yVL _ _ _ _ w _ (alB fun w1 hp1 hb1 => ⟨_, cl hb1 0, f, cl hb1 1, r, cl hb1 2, (over_c (h.pu hp1) (hs.pu hp1)).mono ?_⟩)
 rintro e w2 ⟨b, rfl, hp2, -⟩
 have hp02 := hp1.trans hp2
 have kn : ∀ {w4 : World}, Pu w w4 -> Calls prog 10 #[] w4 fun e w10 => ∃ b248 : Bool, e = .returned (.bool b248) /\ (Ending.returned (.bool b248) = .returned (.bool true) /\ Pu w w10) := fun {w4} hp => by
  refine (yK8 w4).mono ?_
  rintro e w5 ⟨rfl, hp5⟩
  exact ⟨true, rfl, rfl, hp.trans hp5⟩
 refine ⟨b, rfl, Br.of (fun _ => kn hp02) (fun _ => ?_)⟩
 have hb2 := hp2.blk hb1
 refine ⟨_, cl hb2 0, f, cl hb2 1, r, cl hb2 2, (xXC (h.pu hp02) hl.1).mono ?_⟩
 rintro e w3 ⟨hp3, hbad, hgood⟩
 have hp03 := hp02.trans hp3
 by_cases hv : zXt t = 0
 ·obtain ⟨d, val, r', rv, rfl, D⟩ := hgood hv
  refine ⟨some ⟨d.S, 0, none⟩, some ⟨r'.S, 0, none⟩, true, rfl, Br.of (fun c => by cases c) (fun _ => ⟨false, w3, yK5 _ _ _ w3, Br.of (fun c => by cases c) (fun _ => ?_)⟩)⟩
  refine xXS D (Eqv.refl _) (zWs hv) (zWs hv) (md_new t) (hs.pu hp02) (E := fun y => xX7 (fun e w' => e = .returned (.bool true) /\ Pu w w') (some ⟨w.heap.size, 0, none⟩) (some ⟨d.S, 0, none⟩) (some ⟨r'.S, 0, none⟩) [] y) (fun J n w => Iff.rfl) fun y hP => ?_
  exact yZZ hP hb2 (h.fields.pu hp02) fun z hz => kn (hp02.trans hz.pu)
 ·rw [hbad hv]
  exact ⟨none, none, true, rfl, Br.of (fun c => by cases c) (fun _ => ⟨true, w3, zXR (show prog.underlying 59 = some (.pointer 125) by kernel_rfl) _ _ none w3, Br.of (fun _ => Br.of (fun _ => kn hp03) (fun c => by cases c)) (fun c => by cases c)⟩)⟩
end Go.Proofs.YtcihcbfcgjepfaaGreatDoor
