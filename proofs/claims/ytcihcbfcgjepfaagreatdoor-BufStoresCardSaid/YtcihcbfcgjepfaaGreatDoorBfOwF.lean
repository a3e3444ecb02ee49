import Derived.Test.YtcihcbfcgjepfaaGreatDoorBfOwE
import Derived.Test.YtcihcbfcgjepfaaGreatDoorBfOwB
import Derived.Test.YtcihcbfcgjepfaaGreatDoorBfPrA
import Derived.Test.YtcihcbfcgjepfaaGreatDoorShTwenty
import Derived.Test.YtcihcbfcgjepfaaGreatDoorBfOwC
/- Desks: Go. No condition but those stated. -/
set_option maxRecDepth 100000
set_option linter.unusedVariables false
set_option linter.unusedSimpArgs false
namespace Go.Proofs.YtcihcbfcgjepfaaGreatDoor
open Go.Sh Go.RowKit Tryz
variable {w w' : World} {d d' : zQq} {val : Nat -> List Val} {mu : Int}
theorem go_c (h : zQb w d 0 val) (hI : Inv (zQc d val)) (u k : Int) :
  Calls prog 15 #[d.ptr, .int .i64 u, .int .i64 k] w fun e w' => e = .returned (.int .i64 (goC u k (zQc d val))) /\ ∃ d' val', zQ2 w w' d d' 0 val' /\ zQc d' val' = goS u k (zQc d val) := by
 refine yJ5 _ u k w _ ((zX1 h (Pu.refl w) u).mono ?_)
 rintro e w2 ⟨rfl, h2, hf2, hs2⟩
 have bad : ∀ {w3 : World} (n : Int), yQf w w3 d val -> goC u k (zQc d val) = n -> n ≠ 0 -> zQd prog [zZj d] w3 fun w' => Ending.returned (.int .i64 n) = .returned (.int .i64 (goC u k (zQc d val))) /\ ∃ d' val', zQ2 w w' d d' 0 val' /\ zQc d' val' = goS u k (zQc d val) := fun {w3} n h3 hn h0 =>
  h3.left fun w' hL _ _ => ⟨by rw [hn], d, val, hL, by rw [goS, if_pos (by rw [hn]; exact h0)]⟩
 refine ⟨_, _, _, rfl, Br.of (fun c => ?_) (fun c => ?_)⟩
 ·have hu := yQE c
  have e1 : uC u = 1 := by rw [uC, if_neg hu]
  rw [e1]
  exact bad 1 h2 (by rw [goC, if_pos hu]) (by decide)
 have hu := yXs c
 obtain ⟨n, rfl, hn⟩ := zJO hu
 rw [yXE hn]
 have eA : ((zQc d val).us n).at_ = d.at_ n := rfl
 refine (seen_c h2.at_ hn k (by have := hI.ah hn; omega) (by have := hI.rh; omega)).mono ?_
 rintro e w3 ⟨rfl, hp3⟩
 refine ⟨_, ((zZv d n k).getD h0).s, _, rfl, alB fun w4 hp4 hb4 => zQy hb4 bs77.symm rfl rfl fun w5 hb5 hf5 _ => ?_⟩
 have hp25 : Pu w2 w5 := (hp3.trans hp4).andNew hf5 fun i hi => by rw [show i = w3.heap.size from hi]; exact hp3.size
 have h5 := h2.pu hp25
 have es : zWk (zQc d val) n k = (zZv d n k).map (toR val) := (yZb d val n k).symm
 have e0 : goC (n : Int) k (zQc d val) = if zWk (zQc d val) n k = none then 4 else if k = d.at_ n then 0 else zXy n (zQc d val) := by
  rw [goC, if_neg (by simp [hu]), zZa, eA]
 refine Br.of (fun c1 => ?_) (fun c1 => ?_)
 ·have c1 : zZv d n k = none := by simpa using c1
  exact bad 4 h5 (by rw [e0, es, c1]; rfl) (by decide)
 have c1 : (zZv d n k).isSome = true := by simpa using c1
 obtain ⟨x, hx⟩ := Option.isSome_iff_exists.1 c1
 rw [es, hx, if_neg (by simp)] at e0
 -- the end, behind leaving
 have fin : ∀ {w8 : World} {d8 : zQq} {val8 : Nat -> List Val}, zQ2 w w8 d d8 1 val8 -> goC (n : Int) k (zQc d val) = 0 -> zQc d8 val8 = (if k = d.at_ n then zQc d val else zXi n (zQc d val)) ->
   zQp (some (uA d n)) fun a10 => st1 (a10.add 1) (.int .i64 k) w8 fun w11 => zQd prog [zZj d] w11 fun w12 => Ending.returned (.int .i64 0) = .returned (.int .i64 (goC (n : Int) k (zQc d val))) /\ ∃ d' val', zQ2 w w12 d d' 0 val' /\ zQc d' val' = goS n k (zQc d val) := fun {w8 d8 val8} L8 hc hab => by
  have eu : uA d n = uA d8 n := by show (⟨d.S, _, _⟩ : Addr) = ⟨d8.S, _, _⟩; rw [L8.ptr]
  rw [zXB, eu, zQf]
  refine L8.sys.own (d' := d8.withAt n k) (mu' := 1) (by omega) (zVa hn k) rfl rfl (fun x hb => hb.same _ _) fun w11 h11 hf11 hs11 => ?_
  have L11 : zQ2 w w11 d (d8.withAt n k) 1 val8 := L8.trans ⟨h11, hf11.mono fun i hi _ => by rw [show i = d8.S from hi, L8.sys.bd.oS]; simp, fun _ h => .inl h, rfl⟩
  rw [← show zZj (d8.withAt n k) = zZj d by unfold zZj zQq.ptr; rw [L11.ptr]]
  refine zXo L11 fun w' hL _ _ => ⟨by rw [hc], _, _, hL, ?_⟩
  have eG : goS (n : Int) k (zQc d val) = (if k = d.at_ n then zQc d val else zXi n (zQc d val)).setU n { (if k = d.at_ n then zQc d val else zXi n (zQc d val)).us n with at_ := k } := by
   rw [goS, if_neg (by rw [hc]; simp)]
   simp only [zZa, eA]
  rw [yVl, hab, eG]
 refine ⟨d.at_ n, h5.at_.uAt hn, Br.of (fun c2 => ?_) (fun c2 => ?_)⟩
 ·have c2 : k ≠ d.at_ n := zQ5 c2
  rw [if_neg c2] at e0
  refine (yWg h5.at_ hI hn).mono ?_
  rintro e w8 ⟨rfl, d8, val8, hL, habs⟩
  refine ⟨_, rfl, Br.of (fun c3 => ?_) (fun c3 => ?_)⟩
  ·have c3 : zXy n (zQc d val) ≠ 0 := zQ5 c3
   have LL := h5.dl.trans hL
   rw [← show d8.ptr = d.ptr by unfold zQq.ptr; rw [hL.ptr]]
   exact zXo LL fun w' hL' _ _ => ⟨by rw [e0], d8, val8, hL', by rw [habs, yX6 c3, goS, if_pos (by rw [e0]; exact c3)]⟩
  ·have c3 : zXy n (zQc d val) = 0 := zQv c3
   exact fin (h5.dl.trans hL) (by rw [e0, c3]) (by rw [habs, if_neg c2])
 ·have c2 : k = d.at_ n := zQv c2
  exact fin h5.dl (by rw [e0, if_pos c2]) (by rw [if_pos c2])
end Go.Proofs.YtcihcbfcgjepfaaGreatDoor
/- Desks: Append. No condition but those stated. -/
namespace Go.Proofs.YtcihcbfcgjepfaaGreatDoor
open Go.Sh Go.RowKit Tryz
variable {w w' : World} {d d' : zQq} {val : Nat -> List Val} {mu : Int}
end Go.Proofs.YtcihcbfcgjepfaaGreatDoor
/- Desks: Append, walked. No condition but those stated. -/
namespace Go.Proofs.YtcihcbfcgjepfaaGreatDoor
open Go.Sh Go.RowKit Tryz
variable {w w' : World} {d d' : zQq} {val : Nat -> List Val} {mu : Int}
end Go.Proofs.YtcihcbfcgjepfaaGreatDoor
/- Desks: a new desk. No condition but those stated. -/
namespace Go.Proofs.YtcihcbfcgjepfaaGreatDoor
open Go.Sh Go.RowKit Tryz
variable {w w' : World} {d d' : zQq} {val : Nat -> List Val} {mu : Int}
theorem zKk {l : List Fld} {p : Int} : ∀ {rs : List Rec}, zX6 l p rs = 0 -> ∀ r ∈ rs, zQx l p r = 0
 | [], _, r, h => by cases h
 | x :: rs, h, r, hr => by
  unfold zX6 at h
  split at h
  ·next hx => exact absurd h hx
  ·next hx =>
   rcases List.mem_cons.1 hr with rfl | hr
   ·simpa using hx
   ·exact zKk h r hr
theorem zYI {t : Tbl} (h : zX0 t = 0) : Inv (Dsk.new t) := by
 unfold zX0 at h
 split at h
 ·next hp =>
  split at h
  ·next hf => exact absurd h hf
  ·next hf =>
   split at h
   ·cases h
   ·next hl =>
    refine ⟨hp, (by simpa using hf : zQT t.fields = 0), zKk h, ?_, ?_, ?_, ?_, ?_, ?_, ?_⟩
    ·intro u hu r hr; simp [Dsk.new, Usr.new] at hr
    ·intro u hu c hc; simp [Dsk.new, Usr.new] at hc
    ·intro u hu; simp [Dsk.new, Usr.new]
    ·intro u hu; simp [Dsk.new, Usr.new]
    ·intro u hu _ h2; simp [Dsk.new, Usr.new] at h2
    ·simp [allN, Dsk.new, Usr.new]; omega
    ·intro k v hk; simp [Dsk.new] at hk
 ·cases h
def zWX : List zQu -> List Rec -> Nat -> List Val
 | h :: hs, r :: rs => fun b => if b ∈ zQa h.s then r.v else zWX hs rs b
 | _, _ => fun _ => []
theorem yKU {s : SV} {l : List Val} (h : zQh w 28 3 s (l.flatMap zXO)) (hn : s.a = none) : l = [] := by
 cases l with
 | nil => rfl
 | cons v l =>
  obtain ⟨a, ha⟩ := zXV (i := 0) h (by simp)
  rw [hn] at ha; cases ha
theorem zWZ : ∀ {hs : List zQu} {rs : List Rec}, zQU w hs rs -> (vB hs).Nodup -> hs.map (toR (zWX hs rs)) = rs
 | [], [], _, _ => rfl
 | h :: hs, r :: rs, ⟨⟨h1, h2⟩, h3⟩, hn => by
  rw [zQZ] at hn
  obtain ⟨_, n2, n3⟩ := List.nodup_append.1 hn
  have ih := zWZ h3 n2
  simp only [List.map_cons]
  congr 1
  ·rw [toR, h1]
   unfold hv
   cases ha : h.s.a with
   | none =>
    have := yKU h2 ha
    cases r; simp only at this ⊢; rw [this]
   | some a =>
    simp only [zWX]
    rw [if_pos (by simp [zQa, ha])]
  ·refine Eq.trans (List.map_congr_left fun x hx => ?_) ih
   have : hv (zWX (h :: hs) (r :: rs)) x = hv (zWX hs rs) x := by
    unfold hv
    cases ha : x.s.a with
    | none => rfl
    | some a =>
     simp only [zWX]
     rw [if_neg fun e => n3 _ e _ (zXe hx (show a.block ∈ zQa x.s by simp [zQa, ha])) rfl]
   rw [toR, this]; rfl
theorem valOf_row : ∀ {hs : List zQu} {rs : List Rec}, zQU w hs rs -> (vB hs).Nodup -> ∀ x ∈ hs, zQh w 28 3 x.s ((hv (zWX hs rs) x).flatMap zXO)
 | hs, rs, h, hn, x, hx => by
  obtain ⟨i, hi⟩ := List.getElem?_of_mem hx
  have e := zWZ h hn
  have h1 : rs[i]? = some (toR (zWX hs rs) x) := by rw [← e, List.getElem?_map, hi, e]; rfl
  obtain ⟨y, hy, _, hr⟩ := h.at_ h1
  rw [hi] at hy; cases hy
  exact hr
def yYh (page : Int) (fs rs : SV) (L c0 k : Nat) : Array Value := #[.int .i32 0, .int .u32 0, .int .i64 page, .slice fs.a fs.len fs.cap, .slice rs.a rs.len rs.cap,
 .int .i64 0, .int .i64 0, .map (if 0 < k then some (c0 + 0) else none), .slice none 0 0, .int .i64 0, .int .i64 0, .map (if 1 < k then some (c0 + 1) else none), .slice none 0 0,
 .int .i64 0, .int .i64 0, .map (if 2 < k then some (c0 + 2) else none), .slice none 0 0, .int .i64 0, .int .i64 0, .map (if 3 < k then some (c0 + 3) else none), .slice none 0 0, .map (some L)]
theorem yKi {page : Int} {fs rs : SV} {L c0 k : Nat} (hk : k < 4) : (yYh page fs rs L c0 k).setIfInBounds (5 + k * 4 + 2) (.map (some (c0 + k))) = yYh page fs rs L c0 (k + 1) := by
 rcases (by omega : k = 0 ∨ k = 1 ∨ k = 2 ∨ k = 3) with rfl | rfl | rfl | rfl <;> rfl
def zW2 (S L c0 : Nat) (t : Tbl) (fs rs : SV) (hs : List zQu) : zQq where
 sd := false
 o b := if b = S then some .S else if b = L then some .L else if c0 <= b /\ b < c0 + 4 then some (.C (b - c0)) else if b ∈ zQa fs then some .F else if b ∈ zQa rs then some .R else if b ∈ vB hs then some .V else none
 S := S
 L := L
 C u := c0 + u
 page := t.page
 flds := t.fields
 fs := fs
 rs := rs
 rh := hs
 mode _ := 0
 at_ _ := 0
 asv _ := ⟨none, 0, 0⟩
 ah _ := []
 cs _ := ⟨none, 0, 0⟩
 ch _ := []
 lk _ := none
theorem yX8 {t : Tbl} {f r : SV} (h : zKS w t f r) (hl : Lim.ok t.fields) : Calls prog 11 #[yKq t f r] w fun e w' => Pu w w' /\ (zX0 t ≠ 0 -> e = .returned (.tuple #[.pointer none, .int .i64 (zX0 t)])) /\
  (zX0 t = 0 -> ∃ d val, e = .returned (.tuple #[d.ptr, .int .i64 0]) /\ zQb w' d 0 val /\ zQc d val = Dsk.new t /\ ∀ b, d.o b ≠ none -> w.heap.size <= b) := by
 refine yJc _ _ _ w _ (alB fun w1 hp1 hb1 => ?_)
 refine ⟨_, cl hb1 0, f, cl hb1 1, r, cl hb1 2, (yQW (h.pu hp1) hl).mono ?_⟩
 rintro e w2 ⟨rfl, hp2⟩
 have hp02 := hp1.trans hp2
 refine ⟨_, rfl, Br.of (fun c => ?_) (fun c => zQl fun w8 hp8 _ => ?_)⟩
 ·have c := zQ5 c
  exact ⟨hp02, fun _ => rfl, fun e => absurd e c⟩
 have c := zQv c
 have hI := zYI c
 have hb8 := hp8.blk (hp2.blk hb1)
 have hp08 := hp02.trans hp8
 have z1 : w.heap.size < w1.heap.size := zQH hb1
 have zz : w1.heap.size <= w8.heap.size := (hp2.trans hp8).size
 have f16 : t.fields.length <= 16 := hI.f16
 have r300 : t.recs.length <= 300 := hI.r300
 refine ⟨fun y => Pu w8 y, Pu.refl _, f, fun y hy => cl (hy.blk hb8) 1, r, fun y hy => cl (hy.blk hb8) 2, (yQm (h.fields.pu hp08) (by omega)).mono ?_⟩
 rintro e w9 ⟨qf, rfl, hqf, hqn, hp9⟩
 refine ⟨qf, rfl, hp9, (zKD (zZ4.of (h.recs.pu (hp08.trans hp9))) (by omega) fun x hx => by have h1 := zQz (hI.gr x hx); have e : (Dsk.new t).flds.length = t.fields.length := rfl; omega).mono ?_⟩
 rintro e w10 ⟨qr, hs, rfl, hN, hp10⟩
 have hb10 := hp10.blk (hp9.blk hb8)
 have z9 := hp9.size
 have z10 := hp10.size
 refine ⟨qr, rfl, ?_⟩
 rw [zQf]
 refine zQ9 hb10 (by show 0 + 1 < 3; omega) fun w11 hw11 hb11 => ?_
 rw [zQf]
 refine zQ9 hb11 (by show 0 + 2 < 3; omega) fun w12 hw12 hb12 => ?_
 have hf12 : Fr (· = w.heap.size) w10 w12 := by
  refine (show Fr (· = w.heap.size) w10 w11 by rw [hw11]; exact Fr.cell w10 _ _ _).trans (show Fr (· = w.heap.size) w11 w12 by rw [hw12]; exact Fr.cell w11 _ _ _) fun i hi _ => hi
 have s12 : w12.heap.size = w10.heap.size := by rw [hw12, hw11]; simp
 have n1 : ∀ {b : Nat}, w8.heap.size <= b -> ¬ b = w.heap.size := fun {b} hb e => by omega
 have hqf12 := (hqf.pu hp10).fr hf12 fun b hb => n1 (hqn b hb)
 have hrow12 := hN.row.fr hf12 fun b hb => n1 (by have := hN.new b hb; omega)
 have hrec12 := hN.recs.fr hf12 fun b hb => n1 (by have := (hN.vnew b hb).1; omega)
 have hp012 : Pu w w12 := ((hp08.trans hp9).trans hp10).andNew hf12 fun i hi => by rw [show i = w.heap.size from hi]; exact Nat.le_refl _
 refine ⟨_, cl hb12 0, qf, cl hb12 1, qr, cl hb12 2, zX8 fun w13 hw13 => ?_⟩
 have hp13 : Pu w12 w13 := by rw [hw13]; exact Pu.alloc w12 _
 have s13 : w13.heap.size = w12.heap.size + 1 := by rw [hw13]; simp
 have hm13 : zQ3 w13 zXp zXp w12.heap.size ([] : List (Int × Int)) := by rw [hw13]; exact zQ3.new w12 _ _
 refine alB fun w14 hp14 hb14 => ?_
 have z14 := hp14.size
 have l14 : w13.heap.size < w14.heap.size := zQH hb14
 have zf : ∀ b ∈ zQa qf, w8.heap.size <= b /\ b < w12.heap.size := fun b hb => ⟨hqn b hb, by rw [s12]; have := hqf.lt b hb; omega⟩
 have zr : ∀ b ∈ zQa qr, w9.heap.size <= b /\ b < w12.heap.size := fun b hb => ⟨hN.new b hb, by rw [s12]; exact hN.row.lt b hb⟩
 have zv : ∀ b ∈ vB hs, w9.heap.size <= b /\ b < w12.heap.size := fun b hb => ⟨(hN.vnew b hb).1, by
  obtain ⟨x, hx, hxb⟩ := List.mem_flatMap.1 hb
  exact (valOf_row hrec12 hN.nd x hx).lt b hxb⟩
 have zfr : ∀ b ∈ zQa qf, b < w9.heap.size := hqf.lt
 refine zQ8 4 (fun k t' w' => t' = (k : Int) /\ w'.heap.size = w14.heap.size + k /\ w'.heap[w13.heap.size]? = some (.cells (yYh t.page qf qr w12.heap.size w14.heap.size k) 93) /\ (∀ v, v < k -> zQ3 w' zXp chV (w14.heap.size + v) []) /\ Fr (· = w13.heap.size) w14 w') ⟨rfl, rfl, hb14, fun v hv => absurd hv (by omega), Fr.refl _ _⟩ ?_
 rintro k J t' w15 hk ⟨ht, hsz, hbk, hms, hf⟩ hJ
 obtain rfl : t' = (k : Int) := ht
 refine Br.of (fun d1 => ?_) (fun d1 => ?_)
 ·have hk2 : k < 4 := by have := zQn d1; omega
  refine zX8 fun w16 hw16 => ?_
  have hp16 : Pu w15 w16 := by rw [hw16]; exact Pu.alloc w15 _
  have s16 : w16.heap.size = w15.heap.size + 1 := by rw [hw16]; simp
  have hm16 : zQ3 w16 zXp chV w15.heap.size [] := by rw [hw16]; exact zQ3.new w15 _ _
  refine ⟨by omega, by omega, ?_⟩
  rw [zZa, zQf, zQf, zQf]
  have hb16 := hp16.blk hbk
  rw [show 0 + 5 + k * 4 + 2 = 5 + k * 4 + 2 by omega]
  refine zQ9 hb16 (by show 5 + k * 4 + 2 < 22; omega) fun w17 hw17 hb17 => ?_
  have hf17 : Fr (· = w13.heap.size) w16 w17 := by rw [hw17]; exact Fr.cell w16 _ _ _
  have s17 : w17.heap.size = w16.heap.size := by rw [hw17]; simp
  rw [zQe (by omega) (by omega)]
  refine hJ _ _ hk2 ⟨by omega, by omega, ?_, fun v hv => ?_, (hf.trans (Fr.pu hp16 : Fr (· = w13.heap.size) w15 w16) fun i hi _ => hi).trans hf17 fun i hi _ => hi⟩
  ·rw [hb17, hsz, yKi hk2]
  ·by_cases e : v = k
   ·subst e
    rw [← hsz]
    exact hm16.fr hf17 (by omega)
   ·exact ((hms v (by omega)).pu hp16).fr hf17 (by omega)
 ·have hk2 : k = 4 := by have := zQg d1; omega
  subst hk2
  have hpF : Pu w w15 := ((hp012.trans hp13).trans hp14).andNew hf fun i hi => by rw [show i = w13.heap.size from hi]; have := hp012.size; omega
  have hp1214 : Pu w12 w14 := hp13.trans hp14
  have nS : ∀ {b : Nat}, b < w12.heap.size + 1 -> ¬ b = w13.heap.size := fun {b} hb e => by omega
  have o0 : ∀ {b : Nat}, b < w12.heap.size -> (zW2 w13.heap.size w12.heap.size w14.heap.size t qf qr hs).o b = if b ∈ zQa qf then some .F else if b ∈ zQa qr then some .R else if b ∈ vB hs then some .V else none := fun {b} hb => by
   show (if b = w13.heap.size then _ else if b = w12.heap.size then _ else if w14.heap.size <= b /\ b < w14.heap.size + 4 then _ else _) = _
   rw [if_neg (by omega), if_neg (by omega), if_neg (by omega)]
  refine ⟨hpF, fun e => absurd c e, fun _ => ⟨zW2 w13.heap.size w12.heap.size w14.heap.size t qf qr hs, zWX hs t.recs, rfl, ⟨hbk, ?_, rfl⟩, ?_, fun b hb => ?_⟩⟩
  ·have eAll : zXs (zW2 w13.heap.size w12.heap.size w14.heap.size t qf qr hs) = hs := by simp [zXs, uH, chH, zW2]
   have hrecF : zQU w15 hs t.recs := (hrec12.fr (Fr.pu hp1214 : Fr (fun _ => False) w12 w14) fun _ _ h => h).fr hf fun b hb => nS (by have := zv b hb; omega)
   refine ⟨(hqf12.pu hp1214).fr hf fun b hb => nS (by have := zf b hb; omega), (hrow12.pu hp1214).fr hf fun b hb => nS (by have := zr b hb; omega), fun u hu => zQh.nil _ _ _, fun _ u hu => hms u hu, fun e => (by cases e), ⟨[], (hm13.pu hp14).fr hf (nS (by omega)), fun k => rfl⟩, fun x hx => ?_, fun v hv => ⟨rfl, rfl⟩, by rw [eAll]; exact hN.nd, ?_, ?_, fun _ u hu => ?_, fun e => (by cases e), fun b hb => ?_, fun b hb => ?_, fun u hu b hb => by simp [zW2, zQa] at hb, fun b hb => ?_, fun b hb => ?_⟩
   ·rw [eAll] at hx; exact valOf_row hrecF hN.nd x hx
   ·show (if w13.heap.size = w13.heap.size then _ else _) = _; rw [if_pos rfl]
   ·show (if w12.heap.size = w13.heap.size then _ else if w12.heap.size = w12.heap.size then _ else _) = _; rw [if_neg (by omega), if_pos rfl]
   ·show (if w14.heap.size + u = w13.heap.size then _ else if w14.heap.size + u = w12.heap.size then _ else if w14.heap.size <= w14.heap.size + u /\ w14.heap.size + u < w14.heap.size + 4 then some (zZW.C (w14.heap.size + u - w14.heap.size)) else _) = _
    rw [if_neg (by omega), if_neg (by omega), if_pos (by omega), Nat.add_sub_cancel_left]
   ·replace hb : b ∈ zQa qf := hb
    rw [o0 (zf b hb).2, if_pos hb]
   ·replace hb : b ∈ zQa qr := hb
    rw [o0 (zr b hb).2, if_neg (fun e => by have := zfr b e; have := zr b hb; omega), if_pos hb]
   ·rw [eAll] at hb
    rw [o0 (zv b hb).2, if_neg (fun e => by have := zfr b e; have := zv b hb; omega), if_neg (hN.vnew b hb).2, if_pos hb]
   ·have hb : (if b = w13.heap.size then some zZW.S else if b = w12.heap.size then some .L else if w14.heap.size <= b /\ b < w14.heap.size + 4 then some (.C (b - w14.heap.size)) else if b ∈ zQa qf then some .F else if b ∈ zQa qr then some .R else if b ∈ vB hs then some .V else none) ≠ none := hb
    by_cases e1 : b = w13.heap.size
    ·omega
    rw [if_neg e1] at hb
    by_cases e2 : b = w12.heap.size
    ·omega
    rw [if_neg e2] at hb
    by_cases e3 : w14.heap.size <= b /\ b < w14.heap.size + 4
    ·omega
    rw [if_neg e3] at hb
    by_cases e4 : b ∈ zQa qf
    ·have := zf b e4; omega
    rw [if_neg e4] at hb
    by_cases e5 : b ∈ zQa qr
    ·have := zr b e5; omega
    rw [if_neg e5] at hb
    by_cases e6 : b ∈ vB hs
    ·have := zv b e6; omega
    rw [if_neg e6] at hb; exact absurd rfl hb
  ·have e := zWZ hrec12 hN.nd
   simp only [zQc, zW2, Dsk.new, e]
   rfl
  ·have hb : (if b = w13.heap.size then some zZW.S else if b = w12.heap.size then some .L else if w14.heap.size <= b /\ b < w14.heap.size + 4 then some (.C (b - w14.heap.size)) else if b ∈ zQa qf then some .F else if b ∈ zQa qr then some .R else if b ∈ vB hs then some .V else none) ≠ none := hb
   have := hp012.size
   by_cases e1 : b = w13.heap.size
   ·omega
   rw [if_neg e1] at hb
   by_cases e2 : b = w12.heap.size
   ·omega
   rw [if_neg e2] at hb
   by_cases e3 : w14.heap.size <= b /\ b < w14.heap.size + 4
   ·omega
   rw [if_neg e3] at hb
   by_cases e4 : b ∈ zQa qf
   ·have := zf b e4; omega
   rw [if_neg e4] at hb
   by_cases e5 : b ∈ zQa qr
   ·have := zr b e5; omega
   rw [if_neg e5] at hb
   by_cases e6 : b ∈ vB hs
   ·have := zv b e6; omega
   rw [if_neg e6] at hb; exact absurd rfl hb
end Go.Proofs.YtcihcbfcgjepfaaGreatDoor
/- Desks: how the reference's desk lies in memory; its small questions; modes. No condition but those stated. -/
namespace Go.Proofs.YtcihcbfcgjepfaaGreatDoor
open Go.Sh Go.RowKit Tryz
variable {w w' : World} {d d' : zQq} {val : Nat -> List Val}
def yKp (d : zQq) : Array Value := #[.int .i64 d.page, .slice d.fs.a d.fs.len d.fs.cap, .slice d.rs.a d.rs.len d.rs.cap,
 .int .i64 (d.mode 0), .int .i64 (d.at_ 0), .slice (d.cs 0).a (d.cs 0).len (d.cs 0).cap, .slice (d.asv 0).a (d.asv 0).len (d.asv 0).cap,
 .int .i64 (d.mode 1), .int .i64 (d.at_ 1), .slice (d.cs 1).a (d.cs 1).len (d.cs 1).cap, .slice (d.asv 1).a (d.asv 1).len (d.asv 1).cap,
 .int .i64 (d.mode 2), .int .i64 (d.at_ 2), .slice (d.cs 2).a (d.cs 2).len (d.cs 2).cap, .slice (d.asv 2).a (d.asv 2).len (d.asv 2).cap,
 .int .i64 (d.mode 3), .int .i64 (d.at_ 3), .slice (d.cs 3).a (d.cs 3).len (d.cs 3).cap, .slice (d.asv 3).a (d.asv 3).len (d.asv 3).cap, .map (some d.L)]
structure zQ7 (w : World) (d : zQq) (val : Nat -> List Val) : Prop where
 st : w.heap[d.S]? = some (.cells (yKp d) 125)
 bd : zQ4 w d val
 sd : d.sd = true
theorem zQ7.fr {B : Nat -> Prop} (h : zQ7 w d val) (hf : Fr B w w') (hn : ∀ b, d.o b ≠ none -> ¬ B b) : zQ7 w' d val :=
 ⟨hf.blk h.st (hn _ (by rw [h.bd.oS]; simp)), h.bd.fr hf fun b κ hb _ => hn b (by rw [hb]; simp), h.sd⟩
theorem zQ7.pu (h : zQ7 w d val) (hp : Pu w w') : zQ7 w' d val := h.fr (Fr.pu hp : Fr (fun _ => False) w w') fun _ _ h => h
theorem zQ7.cs_row (h : zQ7 w d val) {u : Nat} (hu : u < 4) : zQh w 136 5 (d.cs u) ((d.ch u).flatMap chC) := h.bd.ml h.sd u hu
theorem zQ7.lm (h : zQ7 w d val) : ∃ l, zQ3 w zXp zXp d.L l /\ ∀ k, AL.get l k = (d.lk k).map (· + 1) := by
 obtain ⟨l, h1, h2⟩ := h.bd.lm
 exact ⟨l, h1, fun k => by rw [h2, h.sd]; rfl⟩
abbrev uR (d : zQq) (u : Nat) : Addr := ⟨d.S, 3 + u * 4, none⟩
theorem yYD (d : zQq) (u : Nat) : ((⟨d.S, 0, none⟩ : Addr).add 3).add ((u : Int).toNat * 4) = uR d u := by rw [zQf, zQf, zZa, Nat.zero_add]
theorem yKW {u : Nat} (hu : u < 4) : (yKp d)[3 + u * 4]? = some (.int .i64 (d.mode u)) := by
 rcases (by omega : u = 0 ∨ u = 1 ∨ u = 2 ∨ u = 3) with rfl | rfl | rfl | rfl <;> rfl
theorem ref_at {u : Nat} (hu : u < 4) : (yKp d)[3 + u * 4 + 1]? = some (.int .i64 (d.at_ u)) := by
 rcases (by omega : u = 0 ∨ u = 1 ∨ u = 2 ∨ u = 3) with rfl | rfl | rfl | rfl <;> rfl
theorem ref_as {u : Nat} (hu : u < 4) : (yKp d)[3 + u * 4 + 3]? = some (.slice (d.asv u).a (d.asv u).len (d.asv u).cap) := by
 rcases (by omega : u = 0 ∨ u = 1 ∨ u = 2 ∨ u = 3) with rfl | rfl | rfl | rfl <;> rfl
theorem zQ7.cell (h : zQ7 w d val) (o : Nat) : w.cell? ((⟨d.S, 0, none⟩ : Addr).add o) = (yKp d)[o]? := by rw [zQf, zQs h.st, Nat.zero_add]
theorem zQ7.page (h : zQ7 w d val) : w.cell? (⟨d.S, 0, none⟩ : Addr) = some (.int .i64 d.page) := by rw [zQs h.st]; rfl
theorem zQ7.flds (h : zQ7 w d val) : w.cell? ((⟨d.S, 0, none⟩ : Addr).add 1) = some (.slice d.fs.a d.fs.len d.fs.cap) := by rw [h.cell]; rfl
theorem zQ7.recs (h : zQ7 w d val) : w.cell? ((⟨d.S, 0, none⟩ : Addr).add 2) = some (.slice d.rs.a d.rs.len d.rs.cap) := by rw [h.cell]; rfl
theorem zQ7.locks (h : zQ7 w d val) : w.cell? ((⟨d.S, 0, none⟩ : Addr).add 19) = some (.map (some d.L)) := by rw [h.cell]; rfl
theorem zQ7.uMode (h : zQ7 w d val) {u : Nat} (hu : u < 4) : w.cell? (((⟨d.S, 0, none⟩ : Addr).add 3).add ((u : Int).toNat * 4)) = some (.int .i64 (d.mode u)) := by rw [yYD, zQs h.st]; exact yKW hu
theorem zQ7.uAt (h : zQ7 w d val) {u : Nat} (hu : u < 4) : w.cell? ((((⟨d.S, 0, none⟩ : Addr).add 3).add ((u : Int).toNat * 4)).add 1) = some (.int .i64 (d.at_ u)) := by rw [yYD, zQf, zQs h.st]; exact ref_at hu
theorem zQ7.uAp (h : zQ7 w d val) {u : Nat} (hu : u < 4) : w.cell? ((((⟨d.S, 0, none⟩ : Addr).add 3).add ((u : Int).toNat * 4)).add 3) = some (.slice (d.asv u).a (d.asv u).len (d.asv u).cap) := by rw [yYD, zQf, zQs h.st]; exact ref_as hu
theorem zQ7.as_len (h : zQ7 w d val) {u : Nat} (hu : u < 4) : (d.asv u).len = (d.ah u).length := (h.bd.aw u hu).len zQm (by decide)
theorem zQ7.rs_len (h : zQ7 w d val) : d.rs.len = d.rh.length := h.bd.rw_.len zQm (by decide)
theorem zQ7.own (h : zQ7 w d val) {o : Nat} {v : Value} (ho : o < 20) {K : World -> Prop} (hc : (yKp d).setIfInBounds o v = yKp d') (hS : d'.S = d.S) (hsd : d'.sd = d.sd) (hb : ∀ x, zQ4 x d val -> zQ4 x d' val)
  (hK : ∀ x, zQ7 x d' val -> Fr (· = d.S) w x -> x.heap.size = w.heap.size -> K x) : st1 ⟨d.S, o, none⟩ v w K := by
 refine zQ9 h.st ho fun x hx hbx => ?_
 have hf : Fr (· = d.S) w x := by rw [hx]; exact Fr.cell w _ _ _
 refine hK x ⟨by rw [hS, hbx, hc], hb x (h.bd.fr hf fun b κ hb hne e => ?_), by rw [hsd, h.sd]⟩ hf (by rw [hx]; simp)
 rw [show b = d.S from e, h.bd.oS] at hb
 exact hne (Option.some.inj hb).symm
structure zKv (w w' : World) (d d' : zQq) (val' : Nat -> List Val) : Prop where
 sys : zQ7 w' d' val'
 fr : Fr (fun b => d.o b ≠ none) w w'
 own : ∀ b, d'.o b ≠ none -> d.o b ≠ none ∨ w.heap.size <= b
 ptr : d'.S = d.S
theorem zKv.refl (h : zQ7 w d val) : zKv w w d d val := ⟨h, Fr.refl _ _, fun _ h => .inl h, rfl⟩
theorem zKv.pu (h : zQ7 w d val) (hp : Pu w w') : zKv w w' d d val := ⟨h.pu hp, Fr.pu hp, fun _ h => .inl h, rfl⟩
theorem zKv.trans {w'' : World} {d'' : zQq} {val' val'' : Nat -> List Val} (h : zKv w w' d d' val') (k : zKv w' w'' d' d'' val'') : zKv w w'' d d'' val'' := by
 refine ⟨k.sys, h.fr.trans k.fr fun b hb hlt => (h.own b hb).resolve_right (by omega), fun b hb => ?_, k.ptr.trans h.ptr⟩
 rcases k.own b hb with h1 | h1
 ·exact h.own b h1
 ·exact .inr (Nat.le_trans h.fr.size h1)
theorem zKv.cell {val' : Nat -> List Val} (h : zQ7 w d val) (h' : zQ7 w' d' val') (hf : Fr (· = d.S) w w') (ho : d'.o = d.o) (hS : d'.S = d.S) : zKv w w' d d' val' :=
 ⟨h', hf.mono fun i hi _ => by rw [show i = d.S from hi, h.bd.oS]; simp, fun b hb => .inl (by rw [← ho]; exact hb), hS⟩
def yKV (l : List Chg) (k : Int) : Option Nat := l.findIdx? fun c => decide (c.1 = k)
end Go.Proofs.YtcihcbfcgjepfaaGreatDoor
/- Desks: what the reference tells of values. No condition but those stated. -/
namespace Go.Proofs.YtcihcbfcgjepfaaGreatDoor
open Go.Sh Go.RowKit Tryz
variable {w w' : World} {d d' : zQq} {val : Nat -> List Val}
theorem zQ7.fld (h : zQ7 w d val) (hv : zQT d.flds = 0) : zXH w d.fs d.flds := yVh h.bd.fl (zQO hv).2.1 (zQO hv).2.2
theorem zQ7.vals (h : zQ7 w d val) {x : zQu} (hx : x ∈ zXs d) (hl : (hv val x).length <= 1000000) : RdV w x.s (hv val x) := zJQ.rd (w0 := { w with heap := #[] }) ⟨h.bd.vr x hx, fun _ _ => Nat.zero_le _⟩ (by omega)
theorem zQ7.read (h : zQ7 w d val) (hI : Inv (zQc d val)) {x : zQu} (hx : x ∈ zXs d) : RdV w x.s (hv val x) /\ (hv val x).length = d.flds.length := by
 have h1 : (hv val x).length = d.flds.length := zQz (hI.good hx h.bd.low)
 have h2 : d.flds.length <= 16 := hI.f16
 exact ⟨h.vals hx (by omega), h1⟩
end Go.Proofs.YtcihcbfcgjepfaaGreatDoor
/- Desks: the reference's questions on clashes and changes. No condition but those stated. -/
namespace Go.Proofs.YtcihcbfcgjepfaaGreatDoor
open Go.Sh Go.RowKit Tryz
variable {w w' : World} {d d' : zQq} {val : Nat -> List Val}
theorem yJi {d : zQq} {val : Nat -> List Val} {u : Nat} {k : Int} : AL.get ((zQc d val).us u).ch k = (AL.get (d.ch u) k).map fun c => (toR val c.1, toR val c.2) := zZ2 val (d.ch u) k
end Go.Proofs.YtcihcbfcgjepfaaGreatDoor
/- Desks: the record that a user of the reference changes. No condition but those stated. -/
namespace Go.Proofs.YtcihcbfcgjepfaaGreatDoor
open Go.Sh Go.RowKit Tryz
variable {w w' : World} {d d' : zQq} {val : Nat -> List Val}
theorem zV9 : ∀ {l : List Chg} {k : Int} {i : Nat} {c : zQu × zQu}, yKV l k = some i -> AL.put l k c = l.set i (k, c)
 | [], k, i, c, h => by simp [yKV] at h
 | (a, b) :: l, k, i, c, h => by
  simp only [yKV, List.findIdx?_cons] at h
  simp only [AL.put]
  by_cases e : a = k
  ·rw [if_pos (by simpa using e)] at h
   cases h
   rw [if_pos e]
   show (a, c) :: l = (k, c) :: l
   rw [e]
  ·rw [if_neg (by simpa using e)] at h
   obtain ⟨j, hj, rfl⟩ := Option.map_eq_some_iff.1 h
   rw [if_neg e, zV9 (l := l) (i := j) hj]; rfl
inductive zYa
 | ap (i : Nat)
 | rc (i : Nat)
 | cg (i : Nat) (k : Int)
def zYa.ok (s : zYa) (d : zQq) (u : Nat) (a : Addr) (x : zQu) : Prop := match s with
 | .ap i => (d.ah u)[i]? = some x /\ ∃ a0, (d.asv u).a = some a0 /\ a = a0.add (i * 2)
 | .rc i => d.rh[i]? = some x /\ ∃ a0, d.rs.a = some a0 /\ a = a0.add (i * 2)
 | .cg i k => yKV (d.ch u) k = some i /\ (∃ c, (d.ch u)[i]? = some (k, (c, x)) /\ AL.get (d.ch u) k = some (c, x)) /\ ∃ a0, (d.cs u).a = some a0 /\ a = (a0.add (i * 5)).add 3
def zYa.chg (s : zYa) (u : Nat) (f : Rec -> Rec) (σ : Dsk) : Dsk := match s with
 | .ap i => σ.setU u { σ.us u with ap := (σ.us u).ap.modify i f }
 | .rc i => { σ with recs := σ.recs.modify i f }
 | .cg i k => σ.setU u { σ.us u with ch := AL.put (σ.us u).ch k (((AL.get (σ.us u).ch k).getD (default, default)).1, f ((AL.get (σ.us u).ch k).getD (default, default)).2) }
theorem zYa.mem {s : zYa} {u : Nat} (hu : u < 4) {a : Addr} {x : zQu} (h : s.ok d u a x) : x ∈ zXs d := by
 cases s with
 | ap i => exact zZC hu (List.mem_of_getElem? h.1)
 | rc i => exact zXn (List.mem_of_getElem? h.1)
 | cg i k =>
  obtain ⟨_, ⟨c, h1, _⟩, _⟩ := h
  exact (zVx hu (List.mem_of_getElem? h1)).2
theorem zYa.cell {s : zYa} {u : Nat} (hu : u < 4) {a : Addr} {x : zQu} (h : s.ok d u a x) (hR : zQ7 w d val) : w.cell? (a.add 1) = some (.slice x.s.a x.s.len x.s.cap) := by
 cases s with
 | ap i =>
  obtain ⟨h1, a0, h2, rfl⟩ := h
  obtain ⟨b, hb, _, hc⟩ := (hR.bd.aw u hu).elem zQm h1 (o := 1) (v := .slice x.s.a x.s.len x.s.cap) rfl
  rw [h2] at hb; cases hb
  exact hc
 | rc i =>
  obtain ⟨h1, a0, h2, rfl⟩ := h
  obtain ⟨b, hb, _, hc⟩ := hR.bd.rw_.elem zQm h1 (o := 1) (v := .slice x.s.a x.s.len x.s.cap) rfl
  rw [h2] at hb; cases hb
  exact hc
 | cg i k =>
  obtain ⟨_, ⟨c, h1, _⟩, a0, h2, rfl⟩ := h
  obtain ⟨b, hb, _, hc⟩ := (hR.cs_row hu).elem zYf h1 (o := 4) (v := .slice x.s.a x.s.len x.s.cap) rfl
  rw [h2] at hb; cases hb
  rw [Addr.add_add]; exact hc
theorem yWT (h : zQ4 w d val) {u : Nat} (hu : u < 4) {k : Int} {c : zQu × zQu} (hc : AL.get (d.ch u) k = some c) : ApC d u k c := by
 have q1 := (yWe hu).1 h.nd
 have q2 := zZY (d.ch u) k c
 rw [zK1 hc] at q2
 have q3 : (uH d u ++ zXw d u).Perm (c.1 :: c.2 :: (chH (AL.del (d.ch u) k) ++ d.ah u ++ zXw d u)) := by
  have := (q2.append_right (d.ah u)).append_right (zXw d u)
  simpa [uH] using this
 exact (zZx q3).nodup_iff.1 q1
theorem gen_id {u : Nat} : d.gen u d.o d.rs d.rh (d.asv u) (d.ah u) (d.cs u) (d.ch u) (d.C u) = d := zVd
theorem zWQ {u : Nat} {o' : Nat -> Option zZW} {rh' ah' : List zQu} {C' : Nat} {ch' : List Chg} : yKp (d.gen u o' d.rs rh' (d.asv u) ah' (d.cs u) ch' C') = yKp d := by
 have e1 : (fun v => if v = u then d.asv u else d.asv v) = d.asv := by funext v; by_cases e : v = u <;> simp [e]
 have e2 : (fun v => if v = u then d.cs u else d.cs v) = d.cs := by funext v; by_cases e : v = u <;> simp [e]
 have e3 : (d.gen u o' d.rs rh' (d.asv u) ah' (d.cs u) ch' C').asv = d.asv := e1
 have e4 : (d.gen u o' d.rs rh' (d.asv u) ah' (d.cs u) ch' C').cs = d.cs := e2
 simp only [yKp, e3, e4]
 rfl
theorem zQ7.setVal (h : zQ7 w d val) {x : zQu} (hx : x ∈ zXs d) {a : Addr} (ha : x.s.a = some a) {l' : List Val} (hf : Fr (· ∈ zQa x.s) w w') (hrow : zQh w' 28 3 x.s (l'.flatMap zXO)) : zQ7 w' d (zZI val a.block l') := by
 have hb : a.block ∈ zQa x.s := by simp [zQa, ha]
 have hV : d.o a.block = some .V := h.bd.oV _ (zXe hx hb)
 have hf' : Fr (· = a.block) w w' := hf.mono fun i hi _ => by simpa [zQa, ha] using hi
 exact ⟨hf'.blk h.st fun e => (by rw [← show d.S = a.block from e, h.bd.oS] at hV; cases hV), h.bd.setVal hx ha hf' hrow, h.sd⟩
theorem zYa.set {s : zYa} {u : Nat} (hu : u < 4) {a : Addr} {x : zQu} (h : s.ok d u a x) (hR : zQ7 w d val) {j : Nat} (hj : j < (hv val x).length) (v : Val) {K : World -> Prop}
  (hK : ∀ w' val', zQ7 w' d val' -> Fr (Own d) w w' -> zQc d val' = s.chg u (setVal j v) (zQc d val) -> K w') : ∃ b, x.s.a = some b /\ j < x.s.len /\ stA prog 28 (b.add (j * 3)) #[.int .i64 v.kind, .int .i64 v.n, .string v.s] w K := by
 have hm := zYa.mem hu h
 have hrow := hR.bd.vr x hm
 have hl := hrow.len zQL (by decide)
 obtain ⟨b, hb⟩ := zXV hrow hj
 obtain ⟨b', hb', hst⟩ := hrow.stElem (P := prog) (t := 28) zQL (by decide) hj v yKr.symm rfl (K := K) fun w' g1 g2 g3 => by
  refine hK w' _ (hR.setVal hm hb g2 g1) (g2.mono fun i hi _ => by rw [Own, hR.bd.oV i (zXe hm hi)]; simp) ?_
  cases s with
  | ap i =>
   have hx : (d.ah u)[i]? = some x := h.1
   have hap : ((zQc d val).us u).ap[i]? = some (toR val x) := by show ((d.ah u).map (toR val))[i]? = _; rw [List.getElem?_map, hx]; rfl
   rw [zW3 hR.bd.nd hR.bd.low hu hx hb]
   rw [zXC (f := fun r => { r with v := (hv val x).set j v }) (g := setVal j v) hap rfl]
   rfl
  | rc i =>
   have hx : d.rh[i]? = some x := h.1
   have hap : (zQc d val).recs[i]? = some (toR val x) := by show (d.rh.map (toR val))[i]? = _; rw [List.getElem?_map, hx]; rfl
   rw [zJl hR.bd.nd hR.bd.low hx hb]
   rw [zXC (f := fun r => { r with v := (hv val x).set j v }) (g := setVal j v) hap rfl]
   rfl
  | cg i k =>
   obtain ⟨_, ⟨c, h1, h2⟩, _⟩ := h
   have hA := yWT hR.bd hu h2
   have key := zYO (val := val) (val' := zZI val b.block ((hv val x).set j v)) (o' := d.o) (cs' := d.cs u) (c2 := x) hR.bd.low hA (fun y hy => zZk (hy _ (by simp [zQa, hb])))
   rw [zK1 h2, gen_id] at key
   rw [key]
   have e1 : toR (zZI val b.block ((hv val x).set j v)) x = setVal j v (toR val x) := by rw [toR, zJV hb rfl]; rfl
   rw [e1]
   simp only [zYa.chg]
   rw [yJi, h2]; rfl
 rw [hb] at hb'; cases hb'
 exact ⟨b, hb, by omega, hst⟩
theorem zYa.mark {s : zYa} {u : Nat} (hu : u < 4) {a : Addr} {x : zQu} (h : s.ok d u a x) (hR : zQ7 w d val) (g : Bool) {K : World -> Prop}
  (hK : ∀ w' d', zQ7 w' d' val -> Fr (Own d) w w' -> d'.o = d.o -> d'.S = d.S -> zQc d' val = s.chg u (zZf g) (zQc d val) -> K w') : st1 a (.bool g) w K := by
 have hm := zYa.mem hu h
 have hnd := (yWe hu).1 hR.bd.nd
 have e0 : zXw d u = d.rh ++ (zXw d u).drop d.rh.length := by simp [zXw]
 cases s with
 | ap i =>
  obtain ⟨hx, a0, ha, rfl⟩ := h
  have hi : i < (d.ah u).length := (List.getElem?_eq_some_iff.1 hx).1
  have hap : ((zQc d val).us u).ap[i]? = some (toR val x) := by show ((d.ah u).map (toR val))[i]? = _; rw [List.getElem?_map, hx]; rfl
  obtain ⟨a1, ha1, hst⟩ := (hR.bd.aw u hu).stField (i := i) (o := 0) zQm hi (by decide) { x with g := g } (.bool g) (fun y hy => by rw [hx] at hy; cases hy; rfl) (K := K) fun w1 hr1 hf1 hs1 => by
   have own : ∀ b ∈ zQa (d.asv u), d.o b = some (.A u) := hR.bd.oA u hu
   have ne : ∀ {b : Nat} {κ : zZW}, d.o b = some κ -> κ ≠ .A u -> ¬ b ∈ zQa (d.asv u) := fun {b κ} hb hk e => by rw [own b e] at hb; exact hk (Option.some.inj hb).symm
   have hbd : zQ4 w1 (d.gen u d.o d.rs d.rh (d.asv u) ((d.ah u).set i { x with g := g }) (d.cs u) (d.ch u) (d.C u)) val := by
    refine hR.bd.gen hu hf1 (fun b κ hb _ _ hk _ => ⟨ne hb hk, hb⟩) hR.bd.oS (hR.bd.rw_.fr hf1 fun b hb => ne (hR.bd.oR b hb) (by simp)) hR.bd.oR hr1 own (fun e => ⟨(hR.bd.mp e u hu).fr hf1 (ne (hR.bd.oC e u hu) (by simp)), hR.bd.oC e u hu⟩) (fun e => ⟨(hR.bd.ml e u hu).fr hf1 fun b hb => ne (hR.bd.oK e u hu b hb) (by simp), hR.bd.oK e u hu⟩) (fun y hy => ?_) ?_ (fun b hb => Nat.lt_of_lt_of_le (hR.bd.lt b hb) hf1.size)
    ·left
     simp only [List.mem_append] at hy
     rcases hy with (hy | hy) | hy
     ·exact ⟨y, zJ5 hu (List.mem_append_left _ hy), rfl⟩
     ·rcases List.mem_or_eq_of_mem_set hy with hy | rfl
      ·exact ⟨y, zZC hu hy, rfl⟩
      ·exact ⟨x, hm, rfl⟩
     ·exact ⟨y, zXn hy, rfl⟩
    ·rw [e0] at hnd
     unfold zYd
     rw [zQo, zQo, zWq (y := { x with g := g }) hx rfl, ← zQo, ← zQo]
     exact hnd
   refine hK w1 _ ⟨?_, hbd, hR.sd⟩ (hf1.mono fun c hc _ => by rw [Own, own c hc]; simp) rfl rfl ?_
   ·rw [zWQ]
    exact hf1.blk hR.st (ne hR.bd.oS (by simp))
   ·rw [zK9, List.map_set]
    have e1 : toR val { x with g := g } = zZf g (toR val x) := rfl
    rw [e1, show (d.ah u).map (toR val) = ((zQc d val).us u).ap from rfl, zXM hap]
    rfl
  rw [ha] at ha1; cases ha1
  rw [yZB] at hst
  exact hst
 | rc i =>
  obtain ⟨hx, a0, ha, rfl⟩ := h
  have hi : i < d.rh.length := (List.getElem?_eq_some_iff.1 hx).1
  have hap : (zQc d val).recs[i]? = some (toR val x) := by show (d.rh.map (toR val))[i]? = _; rw [List.getElem?_map, hx]; rfl
  obtain ⟨a1, ha1, hst⟩ := hR.bd.rw_.stField (i := i) (o := 0) zQm hi (by decide) { x with g := g } (.bool g) (fun y hy => by rw [hx] at hy; cases hy; rfl) (K := K) fun w1 hr1 hf1 hs1 => by
   have own : ∀ b ∈ zQa d.rs, d.o b = some .R := hR.bd.oR
   have ne : ∀ {b : Nat} {κ : zZW}, d.o b = some κ -> κ ≠ .R -> ¬ b ∈ zQa d.rs := fun {b κ} hb hk e => by rw [own b e] at hb; exact hk (Option.some.inj hb).symm
   have hbd : zQ4 w1 (d.gen u d.o d.rs (d.rh.set i { x with g := g }) (d.asv u) (d.ah u) (d.cs u) (d.ch u) (d.C u)) val := by
    refine hR.bd.gen hu hf1 (fun b κ hb _ hk _ _ => ⟨ne hb hk, hb⟩) hR.bd.oS hr1 own ((hR.bd.aw u hu).fr hf1 fun b hb => ne (hR.bd.oA u hu b hb) (by simp)) (hR.bd.oA u hu) (fun e => ⟨(hR.bd.mp e u hu).fr hf1 (ne (hR.bd.oC e u hu) (by simp)), hR.bd.oC e u hu⟩) (fun e => ⟨(hR.bd.ml e u hu).fr hf1 fun b hb => ne (hR.bd.oK e u hu b hb) (by simp), hR.bd.oK e u hu⟩) (fun y hy => ?_) ?_ (fun b hb => Nat.lt_of_lt_of_le (hR.bd.lt b hb) hf1.size)
    ·left
     simp only [List.mem_append] at hy
     rcases hy with (hy | hy) | hy
     ·exact ⟨y, zJ5 hu (List.mem_append_left _ hy), rfl⟩
     ·exact ⟨y, zZC hu hy, rfl⟩
     ·rcases List.mem_or_eq_of_mem_set hy with hy | rfl
      ·exact ⟨y, zXn hy, rfl⟩
      ·exact ⟨x, hm, rfl⟩
    ·rw [e0] at hnd
     unfold zYd
     rw [zQo, zQo (d.rh.set _ _), zWq (y := { x with g := g }) hx rfl, ← zQo, ← zQo]
     exact hnd
   refine hK w1 _ ⟨?_, hbd, hR.sd⟩ (hf1.mono fun c hc _ => by rw [Own, own c hc]; simp) rfl rfl ?_
   ·rw [zWQ]
    exact hf1.blk hR.st (ne hR.bd.oS (by simp))
   ·rw [zVd]
    have e1 : toR val { x with g := g } = zZf g (toR val x) := rfl
    show ({ zQc d val with recs := (d.rh.set i { x with g := g }).map (toR val) } : Dsk) = { zQc d val with recs := (zQc d val).recs.modify i (zZf g) }
    rw [List.map_set, e1, show d.rh.map (toR val) = (zQc d val).recs from rfl, zXM hap]
  rw [ha] at ha1; cases ha1
  rw [yZB] at hst
  exact hst
 | cg i k =>
  obtain ⟨hfi, ⟨c, hx, hg⟩, a0, ha, rfl⟩ := h
  have hi : i < (d.ch u).length := (List.getElem?_eq_some_iff.1 hx).1
  have hA := yWT hR.bd hu hg
  obtain ⟨a1, ha1, hst⟩ := (hR.cs_row hu).stField (i := i) (o := 3) zYf hi (by decide) (k, (c, { x with g := g })) (.bool g) (fun y hy => by rw [hx] at hy; cases hy; rfl) (K := K) fun w1 hr1 hf1 hs1 => by
   have own : ∀ b ∈ zQa (d.cs u), d.o b = some (.C u) := hR.bd.oK hR.sd u hu
   have ne : ∀ {b : Nat} {κ : zZW}, d.o b = some κ -> κ ≠ .C u -> ¬ b ∈ zQa (d.cs u) := fun {b κ} hb hk e => by rw [own b e] at hb; exact hk (Option.some.inj hb).symm
   rw [← zV9 (c := (c, { x with g := g })) hfi] at hr1
   have hbd : zQ4 w1 (d.gen u d.o d.rs d.rh (d.asv u) (d.ah u) (d.cs u) (AL.put (d.ch u) k (c, { x with g := g })) (d.C u)) val := by
    refine hR.bd.gen hu hf1 (fun b κ hb _ _ _ hk => ⟨ne hb hk, hb⟩) hR.bd.oS (hR.bd.rw_.fr hf1 fun b hb => ne (hR.bd.oR b hb) (by simp)) hR.bd.oR ((hR.bd.aw u hu).fr hf1 fun b hb => ne (hR.bd.oA u hu b hb) (by simp)) (hR.bd.oA u hu) (fun e => absurd (e.symm.trans hR.sd) (by simp)) (fun e => ⟨hr1, own⟩) (fun y hy => ?_) (hA.gen hu rfl) (fun b hb => Nat.lt_of_lt_of_le (hR.bd.lt b hb) hf1.size)
    left
    simp only [List.mem_append] at hy
    rcases hy with (hy | hy) | hy
    ·have := (zZY (d.ch u) k (c, { x with g := g })).mem_iff.1 hy
     have mc := zVx hu (List.mem_of_getElem? hx)
     rcases List.mem_cons.1 this with rfl | this
     ·exact ⟨_, mc.1, rfl⟩
     ·rcases List.mem_cons.1 this with rfl | this
      ·exact ⟨x, hm, rfl⟩
      ·exact ⟨y, zJ5 hu (List.mem_append_left _ (zY0 this)), rfl⟩
    ·exact ⟨y, zZC hu hy, rfl⟩
    ·exact ⟨y, zXn hy, rfl⟩
   refine hK w1 _ ⟨?_, hbd, hR.sd⟩ (hf1.mono fun c hc _ => by rw [Own, own c hc]; simp) rfl rfl ?_
   ·rw [zWQ]
    exact hf1.blk hR.st (ne hR.bd.oS (by simp))
   ·have key := zYO (val := val) (val' := val) (o' := d.o) (cs' := d.cs u) (c2 := { x with g := g }) hR.bd.low hA (fun y hy => rfl)
    rw [key]
    simp only [zYa.chg]
    rw [yJi, hg]; rfl
  rw [ha] at ha1; cases ha1
  exact hst
end Go.Proofs.YtcihcbfcgjepfaaGreatDoor
/- Desks: the reference opens a record to be changed. No condition but those stated. -/
namespace Go.Proofs.YtcihcbfcgjepfaaGreatDoor
open Go.Sh Go.RowKit Tryz
variable {w w' : World} {d d' : zQq} {val : Nat -> List Val}
theorem Inv.lock {σ : Dsk} (h : Inv σ) {u : Nat} (hu : u < 4) (h1 : 1 <= (σ.us u).at_) : Inv (zX4 u σ) := by
 unfold zX4
 show Inv (if _ then σ else _)
 split
 ·exact h
 ·exact ⟨h.pg, h.vf, h.gr, h.ga, h.gc, h.cn, h.at_, h.rw_, h.nn, fun k v hv => by
   have hv : (if k = (σ.us u).at_ then some (u : Int) else σ.lk k) = some v := hv
   split at hv
   ·next e =>
    have := h.at_ u hu
    have hv := Option.some.inj hv
    exact ⟨by omega, by show k <= (σ.recs.length : Int); omega, by omega, by omega⟩
   ·exact h.lr k v hv⟩
end Go.Proofs.YtcihcbfcgjepfaaGreatDoor
/- Desks: the modes of the users stay in their range. In plain words. No condition but those stated. -/
namespace Go.Proofs.YtcihcbfcgjepfaaGreatDoor
open Go.Sh Go.RowKit Tryz
variable {σ τ : Dsk}
def Md (σ : Dsk) : Prop := ∀ u, u < 4 -> 0 <= (σ.us u).mode /\ (σ.us u).mode <= 4
def Ms (σ τ : Dsk) : Prop := ∀ u, (τ.us u).mode = (σ.us u).mode
theorem Ms.refl (σ : Dsk) : Ms σ σ := fun _ => rfl
theorem Ms.trans {ρ : Dsk} (h : Ms σ τ) (k : Ms τ ρ) : Ms σ ρ := fun u => (k u).trans (h u)
theorem Md.same (h : Md σ) (k : Ms σ τ) : Md τ := fun u hu => by rw [k u]; exact h u hu
theorem Md.mode (h : Md σ) (v m : Int) : Md (zJd v m σ) := by
 unfold zJd
 split
 ·next hc =>
  have hm : 0 <= m /\ m <= 4 := by
   unfold zZO at hc
   split at hc
   ·cases hc
   ·split at hc
    ·cases hc
    ·omega
  intro u hu
  show 0 <= (if u = v.toNat then _ else σ.us u).mode /\ (if u = v.toNat then _ else σ.us u).mode <= 4
  split
  ·exact hm
  ·exact h u hu
 ·exact h
end Go.Proofs.YtcihcbfcgjepfaaGreatDoor
/- Desks: the reference's Set, Mark, Revert, Fall. No condition but those stated. -/
namespace Go.Proofs.YtcihcbfcgjepfaaGreatDoor
open Go.Sh Go.RowKit Tryz
variable {w w' : World} {d d' : zQq} {val : Nat -> List Val}
end Go.Proofs.YtcihcbfcgjepfaaGreatDoor
/- Desks: the reference's Store. No condition but those stated. -/
namespace Go.Proofs.YtcihcbfcgjepfaaGreatDoor
open Go.Sh Go.RowKit Tryz
variable {w w' : World} {d d' : zQq} {val : Nat -> List Val}
end Go.Proofs.YtcihcbfcgjepfaaGreatDoor
/- Desks: the reference's Store as a whole, and Go. No condition but those stated. -/
namespace Go.Proofs.YtcihcbfcgjepfaaGreatDoor
open Go.Sh Go.RowKit Tryz
variable {w w' : World} {d d' : zQq} {val : Nat -> List Val}
theorem zQ7.chg (h : zQ7 w d val) {u : Nat} (hu : u < 4) {k : Nat} {p : Chg} (hp : (d.ch u)[k]? = some p) : ∃ a, (d.cs u).a = some a /\ k < (d.cs u).len /\ w.cell? ((a.add (k * 5)).add 0) = some (.int .i64 p.1) /\ w.cell? ((a.add (k * 5)).add 1) = some (.bool p.2.1.g) /\
  w.cell? ((a.add (k * 5)).add 2) = some (.slice p.2.1.s.a p.2.1.s.len p.2.1.s.cap) /\ w.cell? ((a.add (k * 5)).add 3) = some (.bool p.2.2.g) /\ w.cell? ((a.add (k * 5)).add 4) = some (.slice p.2.2.s.a p.2.2.s.len p.2.2.s.cap) := by
 have ent : ∀ o v, (chC p)[o]? = some v -> ∃ a, (d.cs u).a = some a /\ k < (d.cs u).len /\ w.cell? ((a.add (k * 5)).add o) = some v := fun o v hv => by
  obtain ⟨a, ea, hk, g0⟩ := (h.cs_row hu).elem zYf hp (o := o) (v := v) hv
  exact ⟨a, ea, hk, g0⟩
 obtain ⟨a, ea, hk, g0⟩ := ent 0 _ rfl
 obtain ⟨a1, ea1, _, g1⟩ := ent 1 _ rfl
 obtain ⟨a2, ea2, _, g2⟩ := ent 2 _ rfl
 obtain ⟨a3, ea3, _, g3⟩ := ent 3 _ rfl
 obtain ⟨a4, ea4, _, g4⟩ := ent 4 _ rfl
 rw [ea] at ea1 ea2 ea3 ea4; cases ea1; cases ea2; cases ea3; cases ea4
 exact ⟨a, ea, hk, g0, g1, g2, g3, g4⟩
def RStP (w : World) (d : zQq) (val : Nat -> List Val) (u : Int) (force : Bool) : Rt := fun e w' => ∃ q : SV, e = .returned (.tuple #[.slice q.a q.len q.cap, .int .i64 (storeE u force (zQc d val))]) /\
 zJb w w' q (zKN u force (zQc d val)) /\ ∃ d' val', zKv w w' d d' val' /\ zQc d' val' = zQY u force (zQc d val)
theorem RStP.bad (h : zQ7 w d val) {u : Int} {force : Bool} {w1 : World} (hp : Pu w w1) {n : Int} (hn : storeE u force (zQc d val) = n) (h0 : n ≠ 0) : RStP w d val u force (.returned (.tuple #[.slice none 0 0, .int .i64 n])) w1 :=
 ⟨⟨none, 0, 0⟩, by rw [hn], by rw [zKN, hn, if_neg h0]; exact zJb.nil _ _, d, val, zKv.pu h hp, by
  unfold zQY
  split
  ·next hu =>
   unfold storeE at hn
   rw [if_pos hu] at hn
   rw [zZq, hn, if_neg h0]
  ·rfl⟩
end Go.Proofs.YtcihcbfcgjepfaaGreatDoor
/- Desks: the reference's Append. No condition but those stated. -/
namespace Go.Proofs.YtcihcbfcgjepfaaGreatDoor
open Go.Sh Go.RowKit Tryz
variable {w w' : World} {d d' : zQq} {val : Nat -> List Val}
end Go.Proofs.YtcihcbfcgjepfaaGreatDoor
/- Desks: the reference's tables copied; a new desk of the reference. No condition but those stated. -/
namespace Go.Proofs.YtcihcbfcgjepfaaGreatDoor
open Go.Sh Go.RowKit Tryz
variable {w w' : World} {d d' : zQq} {val : Nat -> List Val}
theorem zQU.lt : ∀ {hs : List zQu} {rs : List Rec}, zQU w hs rs -> ∀ b ∈ vB hs, b < w.heap.size
 | [], [], _, b, hb => by simp [vB] at hb
 | x :: hs, y :: rs, ⟨⟨_, h1⟩, h2⟩, b, hb => by
  rw [zQZ, List.mem_append] at hb
  rcases hb with hb | hb
  ·exact h1.lt b hb
  ·exact zQU.lt h2 b hb
theorem zX2.fr {B : Nat -> Prop} {w0 : World} {q : SV} {hs : List zQu} {rs : List Rec} (h : zX2 w0 w q hs rs) (hf : Fr B w w') (hn : ∀ b, w0.heap.size <= b -> ¬ B b) : zX2 w0 w' q hs rs :=
 ⟨h.row.fr hf fun b hb => hn b (h.new b hb), h.new, h.recs.fr hf fun b hb => hn b (h.vnew b hb).1, h.vnew, h.nd⟩
theorem zX2.push {w0 w1 w5 : World} {q s' : SV} {hs : List zQu} {rs : List Rec} {r : Rec} {b : Nat} (hq : zX2 w0 w1 q hs rs) (hp : Pu w1 w5) (hz : w0.heap.size <= w1.heap.size) (hV : zJQ w1 w5 s' r.v)
  (hb5 : w5.heap[b]? = some (.cells #[.bool r.gone, .slice s'.a s'.len s'.cap] 77)) (hlen : rs.length <= 100000) :
  ∃ (q' : SV) (w6 : World), (Builtin.append_ #[23, 23] 23 #[.slice q.a q.len q.cap, .slice (some ⟨b, 0, none⟩) 1 1]).run prog w5 = .ok (.slice q'.a q'.len q'.cap) w6 /\ zX2 w0 w6 q' (hs ++ [⟨r.gone, s'⟩]) (rs ++ [r]) /\ Fr (· ∈ zQa q) w5 w6 := by
 have hq5 := hq.pu hp
 have hql := hq.row.len zQm (by decide)
 have hhl := hq.recs.len
 have z5 := hp.size
 have hlt5 : ∀ b ∈ zQa s', b < w5.heap.size := hV.1.lt
 have hqlt : ∀ b ∈ zQa q, b < w1.heap.size := hq.row.lt
 have hvlt : ∀ b ∈ vB hs, b < w1.heap.size := hq.recs.lt
 obtain ⟨q', w6, hra, hrow6, hf6, hblk6, _⟩ := zQV (P := prog) (ty := 23) bu23 zYN rfl (by omega) hq5.row (A := some ⟨b, 0, none⟩) (m := 1) (c := 1) (news := [.bool r.gone, .slice s'.a s'.len s'.cap]) rfl (fun j x hx => ⟨_, rfl, by rw [cl hb5]; simpa using hx⟩) (fun x hx => by simp at hx; rcases hx with rfl | rfl <;> rfl) (by show (q.len + 1) * (32 + 1) <= _; omega)
 refine ⟨q', w6, hra, ⟨?_, fun b hb => ?_, ?_, fun b hb => ?_, ?_⟩, hf6⟩
 ·rw [List.flatMap_append, List.flatMap_singleton]; exact hrow6
 ·rcases hblk6 b hb with h1 | h1
  ·exact hq.new b h1
  ·omega
 ·refine ((hq5.recs).fr hf6 fun b hb => (hq.vnew b hb).2).push rfl (hV.1.fr hf6 fun b hb hx => ?_)
  have := hV.2 b hb
  have := hqlt b hx
  omega
 ·rw [zWY, List.mem_append] at hb
  have hq' : ∀ b, b ∈ zQa q' -> b ∈ zQa q ∨ w5.heap.size <= b := hblk6
  rcases hb with hb | hb
  ·have h1 := hq.vnew b hb
   refine ⟨h1.1, fun hx => ?_⟩
   rcases hq' b hx with h2 | h2
   ·exact h1.2 h2
   ·have := hvlt b hb; omega
  ·have hb : b ∈ zQa s' := hb
   have h1 := hV.2 b hb
   have h3 := hlt5 b hb
   refine ⟨by omega, fun hx => ?_⟩
   rcases hq' b hx with h2 | h2
   ·have := hqlt b h2; omega
   ·omega
 ·rw [zWY]
  refine List.nodup_append.2 ⟨hq.nd, yJ2 _, fun a ha b hb e => ?_⟩
  subst e
  have hb : a ∈ zQa s' := hb
  have h1 := hV.2 a hb
  have := hvlt a ha
  omega
theorem zQ7.rdR (h : zQ7 w d val) (hI : Inv (zQc d val)) : zZ4 w d.rs (zQc d val).recs := by
 refine ⟨by rw [h.rs_len]; simp [zQc], fun i r hr => ?_⟩
 have hr : (d.rh.map (toR val))[i]? = some r := hr
 rw [List.getElem?_map] at hr
 obtain ⟨x, hx, rfl⟩ := Option.map_eq_some_iff.1 hr
 obtain ⟨a, ha, _, h0⟩ := h.bd.rw_.elem zQm hx (o := 0) rfl
 obtain ⟨a1, ha1, _, h1⟩ := h.bd.rw_.elem zQm hx (o := 1) rfl
 rw [ha] at ha1; cases ha1
 exact ⟨a, x.s, ha, h0, h1, (h.read hI (zXn (List.mem_of_getElem? hx))).1⟩
end Go.Proofs.YtcihcbfcgjepfaaGreatDoor
/- Desks: Old of the program; what tells whether tables and numbers are equal. No condition but those stated. -/
namespace Go.Proofs.YtcihcbfcgjepfaaGreatDoor
open Go.Sh Go.RowKit Tryz
variable {w w' : World} {d d' : zQq} {val : Nat -> List Val}
theorem yJy {a b : Tbl} {fa ra fb rb : SV} (ha : RdT w a fa ra) (hb : RdT w b fb rb) (hlm : a.recs.length <= 1000000) : Calls prog 23 #[yKq a fa ra, yKq b fb rb] w fun e w' => e = .returned (.bool (decide (a = b))) /\ Pu w w' := by
 have tbl_eq : (a = b) ↔ (a.page = b.page /\ a.fields = b.fields /\ a.recs = b.recs) := by
  obtain ⟨a1, a2, a3⟩ := a; obtain ⟨b1, b2, b3⟩ := b; simp
 refine yZd _ _ _ _ _ _ w _ (alB fun w1 hp1 hb1 => alB fun w2 hp2 hb2 => ?_)
 have hp02 := hp1.trans hp2
 have q1 : ∀ {wz}, Pu w2 wz -> wz.heap[w.heap.size]? = _ := fun {wz} (h : Pu w2 wz) => h.blk (hp2.blk hb1)
 have q2 : ∀ {wz}, Pu w2 wz -> wz.heap[w1.heap.size]? = _ := fun {wz} (h : Pu w2 wz) => h.blk hb2
 have no : ∀ {w' : World}, Pu w2 w' -> a ≠ b -> (Ending.returned (.bool false) = .returned (.bool (decide (a = b))) /\ Pu w w') := fun h hne => ⟨by rw [decide_eq_false hne], hp02.trans h⟩
 refine ⟨_, cl0 (q1 (Pu.refl _)), _, cl0 (q2 (Pu.refl _)), Br.of (fun d => no (Pu.refl _) fun e => zQ5 d (by rw [e])) (fun d => ⟨fa, cl (q1 (Pu.refl _)) 1, fb, cl (q2 (Pu.refl _)) 1, (zVr (ha.fl.pu hp02) (hb.fl.pu hp02)).mono ?_⟩)⟩
 have hpg := zQv d
 rintro e w3 ⟨rfl, hp3⟩
 refine ⟨_, rfl, Br.of (fun d1 => no hp3 fun e => by rw [e] at d1; simp at d1) (fun d1 => ⟨ra, cl (q1 hp3) 2, rb, cl (q2 hp3) 2, ?_⟩)⟩
 have hfl : a.fields = b.fields := by simpa using d1
 have hla := ha.rc.len
 have hlb := hb.rc.len
 refine Br.of (fun d2 => no hp3 fun e => zQ5 d2 (by rw [hla, hlb, e])) (fun d2 => ?_)
 have hlen : a.recs.length = b.recs.length := by have := zQv d2; omega
 refine zQ8 a.recs.length (fun k t w' => t = (k : Int) /\ a.recs.take k = b.recs.take k /\ Pu w2 w') ⟨rfl, by simp, hp3⟩ ?_
 rintro k J t w4 hk ⟨ht, he, hp⟩ hJ
 obtain rfl : t = (k : Int) := ht
 refine ⟨ra, cl (q1 hp) 2, Br.of (fun d3 => zQl fun w5 hp5 _ => ?_) (fun d3 => ?_)⟩
 ·have hk2 : k < a.recs.length := by have := zQn d3; omega
  have p5 := hp.trans hp5
  obtain ⟨x, hx⟩ := zXD hk2
  obtain ⟨y, hy⟩ := zXD (show k < b.recs.length by omega)
  obtain ⟨p, sx, hpa, x0, x1, vx⟩ := (ha.rc.pu (hp02.trans p5)).get k x hx
  obtain ⟨q, sy, hqa, y0, y1, vy⟩ := (hb.rc.pu (hp02.trans p5)).get k y hy
  refine ⟨ra, cl (q1 p5) 2, p, hpa, by omega, by omega, _, by rw [zZa]; exact x0, sx, by rw [zZa]; exact x1, rb, cl (q2 p5) 2, q, hqa, by omega, by omega, _, by rw [zZa]; exact y0, sy, by rw [zZa]; exact y1, (zVv vx vy).mono ?_⟩
  rintro e w6 ⟨rfl, hp6⟩
  refine ⟨_, rfl, Br.of (fun d4 => no (p5.trans hp6) fun e => ?_) (fun d4 => ?_)⟩
  ·have : x = y := by rw [e] at hx; rw [hx] at hy; exact Option.some.inj hy
   subst this
   simp at d4
  ·rw [zQe (by omega) (by omega)]
   have hxy : x = y := by
    rw [rec_eq]
    simpa using d4
   exact hJ _ _ hk2 ⟨by omega, zKa he hx hy hxy, p5.trans hp6⟩
 ·have hk2 : k = a.recs.length := by have := zQg d3; omega
  subst hk2
  rw [List.take_length, hlen, List.take_length] at he
  exact ⟨by rw [decide_eq_true (tbl_eq.2 ⟨hpg, hfl, he⟩)], hp02.trans hp⟩
end Go.Proofs.YtcihcbfcgjepfaaGreatDoor
/- Desks: acts that are handed in; what is too large. No condition but those stated. -/
namespace Go.Proofs.YtcihcbfcgjepfaaGreatDoor
open Go.Sh Go.RowKit Tryz
structure Act where
 op : Int
 a : Int
 b : Int
 c : Int
 s : ByteArray
 t : ByteArray
def Act.ok (a : Act) : Prop := zWE a.op /\ zWE a.a /\ zWE a.b /\ zWE a.c
def Act.vals (a : Act) : List Value := [.int .i64 a.op, .int .i64 a.a, .int .i64 a.b, .int .i64 a.c, .string a.s, .string a.t]
abbrev actA (a : Act) : Value := .agg #[.int .i64 a.op, .int .i64 a.a, .int .i64 a.b, .int .i64 a.c, .string a.s, .string a.t]
instance : Enc Act where
 sz := 6
 rd _ vs a := vs = a.vals /\ a.ok
 len h := by rw [h.1]; rfl
 pu _ h := h
instance : Lim Act := ⟨fun a => Lim.ok a.s /\ Lim.ok a.t⟩
theorem actAt {w : World} {s : SV} {l : List Act} (h : zXH w s l) {i : Nat} {x : Act} (hx : l[i]? = some x) : ∃ a, s.a = some a /\ i < s.len /\ x.ok /\ w.cell? ((a.add (i * 6)).add 0) = some (.int .i64 x.op) /\ w.cell? ((a.add (i * 6)).add 1) = some (.int .i64 x.a) /\
  w.cell? ((a.add (i * 6)).add 2) = some (.int .i64 x.b) /\ w.cell? ((a.add (i * 6)).add 3) = some (.int .i64 x.c) /\ w.cell? ((a.add (i * 6)).add 4) = some (.string x.s) /\ w.cell? ((a.add (i * 6)).add 5) = some (.string x.t) := by
 obtain ⟨a, ha, vs, h1, h2⟩ := h.get i x hx
 obtain ⟨rfl, hok⟩ : vs = x.vals /\ x.ok := h1
 have hi : i < l.length := (List.getElem?_eq_some_iff.1 hx).1
 have h2 : zZd w (a.add (i * 6)) x.vals := h2
 exact ⟨a, ha, by rw [h.len]; exact hi, hok, h2 0 _ rfl, h2 1 _ rfl, h2 2 _ rfl, h2 3 _ rfl, h2 4 _ rfl, h2 5 _ rfl⟩
open Go.ChangeShapes Go.WideShapes Go.ChangeAt in
theorem yZU : zJz prog 51 Act := fun H enc w base sp held fuel cs x h hr => by
 obtain ⟨hl, hF⟩ := zXP (P := prog) (t := 51) (ts := [(3, 0), (3, 1), (3, 2), (3, 3), (9, 4), (9, 5)]) (by kernel_rfl) (by rfl) (fun p hp => by
  simp only [List.mem_cons, List.not_mem_nil, or_false] at hp
  rcases hp with rfl | rfl | rfl | rfl | rfl | rfl <;> kernel_rfl) (by kernel_rfl) h
 obtain ⟨n0, v0, d0, c0, t0, w0⟩ := hF 0 _ rfl
 obtain ⟨n1, v1, d1, c1, t1, w1⟩ := hF 1 _ rfl
 obtain ⟨n2, v2, d2, c2, t2, w2⟩ := hF 2 _ rfl
 obtain ⟨n3, v3, d3, c3, t3, w3⟩ := hF 3 _ rfl
 obtain ⟨n4, v4, d4, c4, t4, w4⟩ := hF 4 _ rfl
 obtain ⟨n5, v5, d5, c5, t5, w5⟩ := hF 5 _ rfl
 obtain ⟨x0, r0, l0⟩ := zQF (zXk (by kernel_rfl)) t0 fun m hm => hr m (w0 m hm)
 obtain ⟨x1, r1, l1⟩ := zQF (zXk (by kernel_rfl)) t1 fun m hm => hr m (w1 m hm)
 obtain ⟨x2, r2, l2⟩ := zQF (zXk (by kernel_rfl)) t2 fun m hm => hr m (w2 m hm)
 obtain ⟨x3, r3, l3⟩ := zQF (zXk (by kernel_rfl)) t3 fun m hm => hr m (w3 m hm)
 obtain ⟨x4, r4, l4⟩ := zQF (zJF (by kernel_rfl)) t4 fun m hm => hr m (w4 m hm)
 obtain ⟨x5, r5, l5⟩ := zQF (zJF (by kernel_rfl)) t5 fun m hm => hr m (w5 m hm)
 obtain ⟨r0, b0⟩ := r0
 obtain ⟨r1, b1⟩ := r1
 obtain ⟨r2, b2⟩ := r2
 obtain ⟨r3, b3⟩ := r3
 have r4 : [v4] = [.string x4] := r4
 have r5 : [v5] = [.string x5] := r5
 simp only [List.cons.injEq, and_true] at r0 r1 r2 r3 r4 r5
 subst r0 r1 r2 r3 r4 r5
 refine ⟨⟨x0, x1, x2, x3, x4, x5⟩, ⟨?_, b0, b1, b2, b3⟩, ⟨l4, l5⟩⟩
 have hl : cs.length = 6 := hl
 apply List.ext_getElem?
 intro i
 match i with
 | 0 => exact c0
 | 1 => exact c1
 | 2 => exact c2
 | 3 => exact c3
 | 4 => exact c4
 | 5 => exact c5
 | k + 6 => rw [List.getElem?_eq_none (by omega)]; rfl
def actV (x : Act) : Val := ⟨x.c, x.b, x.t⟩
theorem yZy (x : Act) (w : World) : Calls prog 21 #[actA x] w fun e w' => e = .returned (zKq (actV x)) /\ Pu w w' := by
 refine yJa _ _ _ _ _ _ w _ (alB fun w1 hp1 hb1 => alB fun w2 hp2 hb2 => ?_)
 have q1 := hp2.blk hb1
 refine ⟨_, cl q1 3, _, cl q1 2, _, cl q1 5, zQy hb2 yKr.symm rfl rfl fun w3 hb3 hf3 _ => ⟨_, cl hb3 0, _, cl hb3 1, _, cl hb3 2, rfl, (hp1.trans hp2).andNew hf3 fun i hi => by rw [show i = w1.heap.size from hi]; exact hp1.size⟩⟩
theorem over_c {w : World} {t : Tbl} {f r s : SV} {l : List Act} (h : zKS w t f r) (hl : zXH w s l) : Calls prog 9 #[yKq t f r, .slice s.a s.len s.cap] w fun e w' => ∃ b : Bool, e = .returned (.bool b) /\ Pu w w' /\ (b = false -> l.length <= 200) := by
 refine yK5 _ _ _ _ w _ (alB fun w1 hp1 hb1 => ⟨_, cl hb1 0, _, cl hb1 1, _, cl hb1 2, (yKX (h.pu hp1)).mono ?_⟩)
 rintro e w2 ⟨n, rfl, hp2⟩
 have hp := hp1.trans hp2
 have hlen := hl.len
 have hlim := hl.lim
 refine ⟨n, rfl, ?_⟩
 refine zQ8 l.length (fun k t w' => t.2 = (k : Int) /\ Pu w w') ⟨rfl, hp⟩ ?_
 rintro k J ⟨n3, m⟩ w3 hk ⟨hm, hp3⟩ hJ
 obtain rfl : m = (k : Int) := hm
 dsimp only
 refine Br.of (fun d1 => zQl fun w4 hp4 _ => ?_) (fun d1 => ?_)
 ·have hk2 : k < l.length := by have := zQn d1; omega
  obtain ⟨x, hx⟩ := zXD hk2
  obtain ⟨a, ha, hi, hok, _, _, _, _, c4, c5⟩ := actAt ((hl.pu hp3).pu hp4) hx
  refine ⟨a, ha, by omega, by omega, x.s, c4, a, ha, by omega, by omega, x.t, c5, ?_⟩
  rw [zQe (n := (k : Int) + 1) (by omega) (by omega)]
  exact hJ _ _ hk2 ⟨by dsimp only; omega, hp3.trans hp4⟩
 ·refine Br.of (fun d2 => ⟨true, rfl, hp3, fun e => by cases e⟩) (fun d2 => ⟨_, rfl, hp3, fun e => ?_⟩)
  have := zQg e; omega
end Go.Proofs.YtcihcbfcgjepfaaGreatDoor
/- Desks: the program's known desk: two users of one record. No condition but those stated. -/
namespace Go.Proofs.YtcihcbfcgjepfaaGreatDoor
open Go.Sh Go.RowKit Tryz
variable {w w' : World} {d d' : zQq} {val : Nat -> List Val} {mu : Int}
structure One (w0 w : World) (d : zQq) (val : Nat -> List Val) (σ : Dsk) : Prop where
 pu : Pu w0 w
 at_ : zQb w d 0 val
 abs : zQc d val = σ
 inv : Inv σ
 new : ∀ b, d.o b ≠ none -> w0.heap.size <= b
theorem One.step {w0 : World} {σ σ' : Dsk} {val' : Nat -> List Val} (h : One w0 w d val σ) (hL : zQ2 w w' d d' 0 val') (ha : zQc d' val' = σ') (hI : Inv σ') : One w0 w' d' val' σ' :=
 ⟨h.pu.andNew hL.fr fun i hi => h.new i hi, hL.sys, ha, hI, fun b hb => (hL.own b hb).elim (h.new b) fun hz => Nat.le_trans h.pu.size hz⟩
theorem One.plus {w0 w1 : World} {σ : Dsk} (h : One w0 w d val σ) (hp : Pu w w1) : One w0 w1 d val σ := ⟨h.pu.trans hp, h.at_.pu hp, h.abs, h.inv, h.new⟩
theorem yZZ {α : Type} [Enc α] {b : Nat} {vs : List Value} {ty : TypeId} {x : α} (hb : w.heap[b]? = some (.cells vs.toArray ty)) (h : Enc.rd w vs x) : zXH w ⟨some ⟨b, 0, none⟩, 1, 1⟩ [x] :=
 ⟨rfl, Nat.le_refl _, (by show 1 <= 140737488355328; omega), fun i y hy => by
  cases i with
  | succ i => simp at hy
  | zero =>
   simp at hy; subst hy
   refine ⟨_, rfl, vs, h, fun j v hv => ?_⟩
   rw [Nat.zero_mul, yZB, cl hb]
   simpa using hv⟩
def kA : ByteArray := ⟨#[65]⟩
def kT : Tbl := ⟨0, [⟨kA, 2, 5, false⟩], [⟨false, [⟨2, 0, ⟨#[]⟩⟩]⟩]⟩
def kV (n : Int) : Val := ⟨2, n, ⟨#[]⟩⟩
def kU (u : Nat) (σ : Dsk) : Dsk := yXS u kA (kV ((u : Int) + 1)) (goS u 1 (zJd u 2 σ))
def kS : Nat -> Dsk
 | 0 => Dsk.new kT
 | k + 1 => kU k (kS k)
theorem yJD : zX0 kT = 0 := by decide +kernel
theorem k_mode (u : Nat) (hu : u < 2) : zZO u 2 (kS u) = 0 := by
 rcases (by omega : u = 0 ∨ u = 1) with rfl | rfl <;> decide +kernel
theorem k_go (u : Nat) (hu : u < 2) : goC u 1 (zJd u 2 (kS u)) = 0 := by
 rcases (by omega : u = 0 ∨ u = 1) with rfl | rfl <;> decide +kernel
theorem k_set (u : Nat) (hu : u < 2) : zYc u kA (kV ((u : Int) + 1)) (goS u 1 (zJd u 2 (kS u))) = 0 := by
 rcases (by omega : u = 0 ∨ u = 1) with rfl | rfl <;> decide +kernel
def k3 : Dsk := zQY 0 false (kS 2)
def k4 : Dsk := zQY 1 false k3
def k5 : Dsk := zQY 1 true k4
theorem k_s1 : storeE 0 false (kS 2) = 0 := by decide +kernel
theorem k_s2 : storeE 1 false k3 = 13 := by decide +kernel
theorem k_s3 : storeE 1 true k4 = 0 := by decide +kernel
theorem k_now : yKs 1 kA k5 = (kV 2, 0) := by decide +kernel
theorem zZi {n : Int} (h1 : 0 <= n) (h2 : n <= 1000) : zWE n := ⟨by omega, by omega⟩
theorem zVh (S : Nat) (x y : Operand) (w : World) : (eqS .eql 32 x y (.pointer (some ⟨S, 0, none⟩)) (.pointer none)).run prog w = .ok (.bool false) w := zK8 bu32 _ _ _ w
theorem yZX (w : World) : Calls prog 10 #[] w fun e w' => e = .returned (.bool true) /\ Pu w w' := by
 refine yZ2 w _ (alB fun w1 hp1 hb1 => (yV0 0 w1).mono ?_)
 rintro e w2 ⟨rfl, hp2⟩
 refine ⟨_, _, _, rfl, alB fun w3 hp3 hb3 => alB fun w4 hp4 hb4 => ?_⟩
 have hp02 := hp1.trans hp2
 have hp04 := (hp02.trans hp3).trans hp4
 have b1 := hp4.blk (hp3.blk (hp2.blk hb1))
 have b3 := hp4.blk hb3
 have rV : zXH w4 ⟨some ⟨w2.heap.size, 0, none⟩, 1, 1⟩ [(⟨2, 0, ⟨#[]⟩⟩ : Val)] := yZZ b3 ⟨rfl, zZi (by decide) (by decide), zZi (by decide) (by decide)⟩
 have rF : zXH w4 ⟨some ⟨w.heap.size, 0, none⟩, 1, 1⟩ [(⟨kA, 2, 5, false⟩ : Fld)] := yZZ b1 ⟨rfl, zZi (by decide) (by decide), zZi (by decide) (by decide)⟩
 have rR : zXH w4 ⟨some ⟨w3.heap.size, 0, none⟩, 1, 1⟩ [(⟨false, [⟨2, 0, ⟨#[]⟩⟩]⟩ : Rec)] := yZZ hb4 ⟨_, rfl, rV⟩
 have rT : zKS w4 kT ⟨some ⟨w.heap.size, 0, none⟩, 1, 1⟩ ⟨some ⟨w3.heap.size, 0, none⟩, 1, 1⟩ := ⟨zZi (by decide) (by decide), rF, rR⟩
 refine (yX8 rT (by intro f hf; simp [kT] at hf; subst hf; show 1 <= 140737488355328; omega)).mono ?_
 rintro e w5 ⟨hp5, -, hgood⟩
 obtain ⟨d, val, rfl, hD, habs, hnew⟩ := hgood yJD
 have hI := zYI yJD
 have hO : One w w5 d val (kS 0) := ⟨hp04.trans hp5, hD, habs, hI, fun b hb => Nat.le_trans hp04.size (hnew b hb)⟩
 refine ⟨some ⟨d.S, 0, none⟩, 0, rfl, ?_⟩
 show ∃ b27 : Bool, ∃ w25 : World, _ /\ _
 refine ⟨false, w5, zVh _ _ _ w5, ?_⟩
 show yYA _ _ _ _ _
 refine zQ8 2 (fun k t w' => t = (k : Int) /\ ∃ dk valk, dk.S = d.S /\ One w w' dk valk (kS k)) ⟨rfl, d, val, rfl, hO⟩ ?_
 rintro k J t w6 hk ⟨ht, dk, valk, hS, h6⟩ hJ
 obtain rfl : t = (k : Int) := ht
 have ep : (some ⟨d.S, 0, none⟩ : Option Addr) = some ⟨dk.S, 0, none⟩ := by rw [hS]
 rw [ep]
 refine Br.of (fun d1 => ?_) (fun d1 => ?_)
 ·have hk2 : k < 2 := by have := zQn d1; omega
  refine (yKf h6.at_ (k : Int) 2).mono ?_
  rintro e w7 ⟨rfl, d7, hL7, ha7⟩
  rw [h6.abs] at ha7 ⊢
  rw [k_mode k hk2]
  have h7 := h6.step hL7 ha7 (h6.inv.mode _ _)
  refine ⟨_, rfl, ?_⟩
  show Calls prog 15 #[dk.ptr, _, _] w7 _
  rw [show dk.ptr = d7.ptr by unfold zQq.ptr; rw [hL7.ptr]]
  refine (go_c h7.at_ (by rw [h7.abs]; exact h7.inv) (k : Int) 1).mono ?_
  rintro e w8 ⟨rfl, d8, v8, hL8, ha8⟩
  rw [h7.abs] at ha8 ⊢
  rw [k_go k hk2]
  have h8 := h7.step hL8 ha8 (h7.inv.go _ _)
  refine ⟨_, rfl, ?_⟩
  show Calls prog 37 _ w8 _
  rw [zQe (n := (k : Int) + 1) (by omega) (by omega)]
  refine (yV0 ((k : Int) + 1) w8).mono ?_
  rintro e w9 ⟨rfl, hp9⟩
  have h9 := h8.plus hp9
  refine ⟨_, _, _, rfl, ?_⟩
  rw [show (some ⟨dk.S, 0, none⟩ : Option Addr) = some ⟨d8.S, 0, none⟩ by rw [hL8.ptr, hL7.ptr]]
  refine (yK6 h9.at_ (by rw [h9.abs]; exact h9.inv) (k : Int) kA (kV ((k : Int) + 1))).mono ?_
  rintro e w10 ⟨rfl, d10, v10, hL10, ha10⟩
  rw [h9.abs] at ha10 ⊢
  rw [k_set k hk2]
  have h10 := h9.step hL10 ha10 (h9.inv.set _ _ _)
  refine ⟨_, rfl, ?_⟩
  show J _ w10
  refine hJ _ _ hk2 ⟨by omega, d10, v10, by rw [hL10.ptr, hL8.ptr, hL7.ptr, hS], h10⟩
 ·have hk2 : k = 2 := by have := zQg d1; omega
  subst hk2
  refine (zWN h6.at_ (by rw [h6.abs]; exact h6.inv) 0 false).mono ?_
  rintro e w7 ⟨q7, rfl, -, d7, v7, hL7, ha7⟩
  rw [h6.abs] at ha7 ⊢
  rw [k_s1]
  have h7 := h6.step hL7 ha7 (h6.inv.storeE _ _)
  refine ⟨q7, _, rfl, ?_⟩
  rw [show (some ⟨dk.S, 0, none⟩ : Option Addr) = some ⟨d7.S, 0, none⟩ by rw [hL7.ptr]]
  refine (zWN h7.at_ (by rw [h7.abs]; exact h7.inv) 1 false).mono ?_
  rintro e w8 ⟨q8, rfl, -, d8, v8, hL8, ha8⟩
  rw [h7.abs] at ha8 ⊢
  have e2 : storeE 1 false (zQY 0 false (kS 2)) = 13 := k_s2
  rw [e2]
  have h8 := h7.step hL8 ha8 (h7.inv.storeE _ _)
  refine ⟨q8, _, rfl, ?_⟩
  rw [show (some ⟨d7.S, 0, none⟩ : Option Addr) = some ⟨d8.S, 0, none⟩ by rw [hL8.ptr]]
  refine (zWN h8.at_ (by rw [h8.abs]; exact h8.inv) 1 true).mono ?_
  rintro e w9 ⟨q9, rfl, -, d9, v9, hL9, ha9⟩
  rw [h8.abs] at ha9 ⊢
  have e3 : storeE 1 true (zQY 1 false (zQY 0 false (kS 2))) = 0 := k_s3
  rw [e3]
  have h9 := h8.step hL9 ha9 (h8.inv.storeE _ _)
  refine ⟨q9, _, rfl, ?_⟩
  rw [show (some ⟨d8.S, 0, none⟩ : Option Addr) = some ⟨d9.S, 0, none⟩ by rw [hL9.ptr]]
  refine (now_c h9.at_ (by rw [h9.abs]; exact h9.inv) 1 kA).mono ?_
  rintro e w10 ⟨rfl, hL10⟩
  rw [h9.abs]
  have e4 : yKs 1 kA (zQY 1 true (zQY 1 false (zQY 0 false (kS 2)))) = (kV 2, 0) := k_now
  rw [e4]
  have h10 := h9.step hL10 h9.abs h9.inv
  refine ⟨_, _, _, _, rfl, alB fun w11 hp11 hb11 => zQy hb11 yKr.symm rfl rfl fun w12 hb12 hf12 _ => ?_⟩
  have hp12 : Pu w w12 := (h10.pu.trans hp11).andNew hf12 fun i hi => by rw [show i = w10.heap.size from hi]; exact h10.pu.size
  show ∃ n88 : Int, _ /\ _
  exact ⟨2, cl hb12 1, rfl, hp12⟩
end Go.Proofs.YtcihcbfcgjepfaaGreatDoor
/- Desks: the law on changes that are stored at once, walked. No condition but those stated. -/
namespace Go.Proofs.YtcihcbfcgjepfaaGreatDoor
open Go.Sh Go.RowKit Tryz
def Ap (a b : zQq) : Prop := ∀ x, a.o x ≠ none -> b.o x = none
section
variable {w0 w w' : World} {a a' b b' c c' : zQq} {va va' vb vb' vc vc' : Nat -> List Val} {σa σb σc τ : Dsk} {mu : Int}
theorem Ap.symm (h : Ap a b) : Ap b a := fun x hx => by
 cases e : a.o x with
 | none => rfl
 | some κ => exact absurd (h x (by rw [e]; simp)) hx
theorem Ap.step (h : Ap a b) (hB : zQb w b 0 vb) (hL : zQ2 w w' a a' 0 va') : Ap a' b := fun x hx => by
 rcases hL.own x hx with h1 | h1
 ·exact h x h1
 ·exact hB.bd.out h1
theorem One.keep (h : One w0 w b vb σb) (hA : Ap a b) (hn : ∀ x, a.o x ≠ none -> w0.heap.size <= x) (hL : zQ2 w w' a a' 0 va') : One w0 w' b vb σb :=
 ⟨h.pu.andNew hL.fr fun i hi => hn i hi, h.at_.fr hL.fr fun x hx hax => hx (hA x hax), h.abs, h.inv, h.new⟩
structure Tri (w0 w : World) (a : zQq) (va : Nat -> List Val) (σa : Dsk) (b : zQq) (vb : Nat -> List Val) (σb : Dsk) (c : zQq) (vc : Nat -> List Val) (σc : Dsk) : Prop where
 A : One w0 w a va σa
 B : One w0 w b vb σb
 C : One w0 w c vc σc
 ab : Ap a b
 ac : Ap a c
 bc : Ap b c
theorem Tri.stepA (h : Tri w0 w a va σa b vb σb c vc σc) (hL : zQ2 w w' a a' 0 va') (ha : zQc a' va' = τ) (hI : Inv τ) : Tri w0 w' a' va' τ b vb σb c vc σc :=
 ⟨h.A.step hL ha hI, h.B.keep h.ab h.A.new hL, h.C.keep h.ac h.A.new hL, h.ab.step h.B.at_ hL, h.ac.step h.C.at_ hL, h.bc⟩
theorem Tri.stepB (h : Tri w0 w a va σa b vb σb c vc σc) (hL : zQ2 w w' b b' 0 vb') (ha : zQc b' vb' = τ) (hI : Inv τ) : Tri w0 w' a va σa b' vb' τ c vc σc :=
 ⟨h.A.keep h.ab.symm h.B.new hL, h.B.step hL ha hI, h.C.keep h.bc h.B.new hL, (h.ab.symm.step h.A.at_ hL).symm, h.ac, h.bc.step h.C.at_ hL⟩
theorem Tri.stepC (h : Tri w0 w a va σa b vb σb c vc σc) (hL : zQ2 w w' c c' 0 vc') (ha : zQc c' vc' = τ) (hI : Inv τ) : Tri w0 w' a va σa b vb σb c' vc' τ :=
 ⟨h.A.keep h.ac.symm h.C.new hL, h.B.keep h.bc.symm h.C.new hL, h.C.step hL ha hI, h.ab, (h.ac.symm.step h.A.at_ hL).symm, (h.bc.symm.step h.B.at_ hL).symm⟩
theorem Tri.plus (h : Tri w0 w a va σa b vb σb c vc σc) (hp : Pu w w') : Tri w0 w' a va σa b vb σb c vc σc := ⟨h.A.plus hp, h.B.plus hp, h.C.plus hp, h.ab, h.ac, h.bc⟩
structure AsT (w : World) (a b c : zQq) (r : Nat) (X : Array Value) (e : TypeId) : Prop where
 blk : w.heap[r]? = some (.cells X e)
 na : a.o r = none
 nb : b.o r = none
 nc : c.o r = none
theorem zKT {r : Nat} (hr : r < w.heap.size) (h : a.o r = none) (hL : zQ2 w w' a a' mu va') : a'.o r = none := by
 cases e : a'.o r with
 | none => rfl
 | some κ =>
  rcases hL.own r (by rw [e]; simp) with h1 | h1
  ·exact absurd h h1
  ·omega
theorem AsT.stepA {r : Nat} {X : Array Value} {e : TypeId} (h : AsT w a b c r X e) (hL : zQ2 w w' a a' mu va') : AsT w' a' b c r X e := ⟨hL.fr.blk h.blk fun e => e h.na, zKT (zQH h.blk) h.na hL, h.nb, h.nc⟩
theorem AsT.stepB {r : Nat} {X : Array Value} {e : TypeId} (h : AsT w a b c r X e) (hL : zQ2 w w' b b' mu vb') : AsT w' a b' c r X e := ⟨hL.fr.blk h.blk fun e => e h.nb, h.na, zKT (zQH h.blk) h.nb hL, h.nc⟩
theorem AsT.stepC {r : Nat} {X : Array Value} {e : TypeId} (h : AsT w a b c r X e) (hL : zQ2 w w' c c' mu vc') : AsT w' a b c' r X e := ⟨hL.fr.blk h.blk fun e => e h.nc, h.na, h.nb, zKT (zQH h.blk) h.nc hL⟩
theorem AsT.pu {r : Nat} {X : Array Value} {e : TypeId} (h : AsT w a b c r X e) (hp : Pu w w') : AsT w' a b c r X e := ⟨hp.blk h.blk, h.na, h.nb, h.nc⟩
end
def TrP (w0 w : World) (m : Int) (t : Tbl) (Sa Sb Sc : Nat) : Prop := ∃ a va σa b vb σb c vc σc k, a.S = Sa /\ b.S = Sb /\ c.S = Sc /\ Tri w0 w a va σa b vb σb c vc σc /\ Sim m t k σa σb σc /\ Cl m σc
theorem bs51 : zXc prog 51 = 6 := by kernel_rfl
section
variable {w0 w : World} {t : Tbl} {m : Int} {Sa Sb Sc : Nat} {R : Rt}
theorem zY1 (hm : 1 <= m) (hm4 : m <= 4) (hP : TrP w0 w m t Sa Sb Sc) {s : SV} {l : List Act} (hs : zXH w0 s l) {i : Nat} (hi : i < l.length) {p3 : Option Addr} {J : Int -> World -> Prop} (hJ : ∀ y, TrP w0 y m t Sa Sb Sc -> J (IntKind.i64.wrap ((i : Int) + 1)) y) :
  F4_3 R J s p3 (some ⟨Sa, 0, none⟩) (some ⟨Sb, 0, none⟩) (some ⟨Sc, 0, none⟩) m (i : Int) [] w := by
 obtain ⟨a, va, σa, b, vb, σb, c, vc, σc, k, eSa, eSb, eSc, T, hS, hC⟩ := hP
 have hlen := hs.len
 have hlim := hs.lim
 obtain ⟨x, hx⟩ := zXD hi
 obtain ⟨A, hA, hi', hok, c0, c1, c2, c3, c4, c5⟩ := actAt (hs.pu T.A.pu) hx
 refine ⟨A, hA, by omega, by omega, x.a, by rw [zZa]; exact c1, A, hA, by omega, by omega, x.op, by rw [zZa]; exact c0, x.a, by rw [zZa]; exact c1, x.b, by rw [zZa]; exact c2, x.c, by rw [zZa]; exact c3, x.s, by rw [zZa]; exact c4, x.t, by rw [zZa]; exact c5,
  alB fun w17 hp17 hb17 => zQy hb17 bs51.symm rfl rfl fun w18 hb18 hf18 _ => ?_⟩
 have hp18 : Pu w w18 := hp17.andNew hf18 fun i hi => by rw [show i = w.heap.size from hi]; exact Nat.le_refl _
 have T1 := T.plus hp18
 have A1 : AsT w18 a b c w.heap.size #[.int .i64 x.op, .int .i64 x.a, .int .i64 x.b, .int .i64 x.c, .string x.s, .string x.t] 51 := ⟨hb18, T.A.at_.bd.out (Nat.le_refl _), T.B.at_.bd.out (Nat.le_refl _), T.C.at_.bd.out (Nat.le_refl _)⟩
 -- going
 rw [← eSa]
 refine (go_c T1.A.at_ (by rw [T1.A.abs]; exact T1.A.inv) 0 x.a).mono ?_
 rintro e w19 ⟨rfl, a1, va1, hLa, haa⟩
 rw [T1.A.abs] at haa ⊢
 have T2 := T1.stepA hLa haa (T1.A.inv.go _ _)
 have A2 := A1.stepA hLa
 rw [← eSb, ← hLa.ptr]
 refine ⟨_, rfl, (go_c T2.B.at_ (by rw [T2.B.abs]; exact T2.B.inv) 0 x.a).mono ?_⟩
 rintro e w20 ⟨rfl, b1, vb1, hLb, hbb⟩
 rw [T2.B.abs] at hbb ⊢
 have T3 := T2.stepB hLb hbb (T2.B.inv.go _ _)
 have A3 := A2.stepB hLb
 rw [← eSc, ← hLb.ptr]
 refine ⟨_, rfl, (go_c T3.C.at_ (by rw [T3.C.abs]; exact T3.C.inv) 0 x.a).mono ?_⟩
 rintro e w21 ⟨rfl, c1', vc1, hLc, hcc⟩
 rw [T3.C.abs] at hcc ⊢
 have T4 := T3.stepC hLc hcc (T3.C.inv.go _ _)
 have A4 := A3.stepC hLc
 rw [← hLc.ptr]
 have hSa : a1.S = Sa := hLa.ptr.trans eSa
 have hSb : b1.S = Sb := hLb.ptr.trans eSb
 have hSc : c1'.S = Sc := hLc.ptr.trans eSc
 obtain ⟨e1, e2, hcase⟩ := st_go hS hC T.A.inv T.B.inv x.a
 refine ⟨_, rfl, Br.of (fun q => absurd e1 (zQ5 q)) (fun _ => Br.of (fun q => absurd (e1.trans e2.symm) (zQ5 q)) (fun _ => Br.of (fun q => ?_) (fun q => ?_)))⟩
 ·have q : goC 0 x.a σa ≠ 0 := zQ5 q
  rcases hcase with ⟨_, f1, f2, f3⟩ | ⟨h0, _⟩
  ·rw [f1, f2, f3] at T4
   exact hJ _ ⟨a1, va1, σa, b1, vb1, σb, c1', vc1, σc, k, hSa, hSb, hSc, T4, hS, hC⟩
  ·exact absurd (e1.trans h0) q
 have q : goC 0 x.a σa = 0 := zQv q
 rcases hcase with ⟨h0, _⟩ | ⟨_, hk1, hS4, hC4⟩
 ·exact absurd (e1.symm.trans q) h0
 -- behind the change, in the third desk what is to be thrown away
 have fin : ∀ {w41 : World} {a2 b2 c2 : zQq} {va2 vb2 vc2 : Nat -> List Val} {τa τb τc : Dsk}, Tri w0 w41 a2 va2 τa b2 vb2 τb c2 vc2 τc -> a2.S = a1.S -> b2.S = b1.S -> c2.S = c1'.S -> Sim m t x.a τa τb τc ->
   Br (decide (m < 3)) (Calls prog 22 #[.pointer (some ⟨c1'.S, 0, none⟩), .int .i64 0] w41 fun e w44 => ∃ n173_0 : Int, ∃ n173_1 : Int, e = .returned (.tuple #[.int .i64 n173_0, .int .i64 n173_1]) /\ yVk R J s p3 (some ⟨a1.S, 0, none⟩) (some ⟨b1.S, 0, none⟩) (some ⟨c1'.S, 0, none⟩) m (i : Int) [] w44)
    (yVk R J s p3 (some ⟨a1.S, 0, none⟩) (some ⟨b1.S, 0, none⟩) (some ⟨c1'.S, 0, none⟩) m (i : Int) [] w41) := fun {w41 a2 b2 c2 va2 vb2 vc2 τa τb τc} T5 ea eb ec hS5 => by
  refine Br.of (fun q3 => ?_) (fun q3 => ?_)
  ·rw [← ec]
   refine (zYY T5.C.at_ (by rw [T5.C.abs]; exact T5.C.inv) 0).mono ?_
   rintro e w44 ⟨rfl, c3, hL3, hc3⟩
   rw [T5.C.abs] at hc3
   have T6 := T5.stepC hL3 hc3 (T5.C.inv.revert _)
   obtain ⟨hS6, hC6, _⟩ := yVW hS5
   exact ⟨_, _, rfl, hJ _ ⟨a2, va2, τa, b2, vb2, τb, c3, vc2, _, x.a, ea.trans hSa, eb.trans hSb, hL3.ptr.trans (ec.trans hSc), T6, hS6, hC6⟩⟩
  ·have q3 := zQg q3
   exact hJ _ ⟨a2, va2, τa, b2, vb2, τb, c2, vc2, τc, x.a, ea.trans hSa, eb.trans hSb, ec.trans hSc, T5, hS5, fun h3 => absurd h3 q3⟩
 refine ⟨x.op, cl0 A4.blk, rfl, by decide, Br.of (fun _ => zQl fun w28 hp28 _ => ?_) (fun _ => zQl fun w35 hp35 _ => ?_)⟩
 ·have T5 := T4.plus hp28
  have A5 := A4.pu hp28
  refine ⟨fun y => y.heap[w.heap.size]? = some (.cells #[.int .i64 x.op, .int .i64 x.a, .int .i64 x.b, .int .i64 x.c, .string x.s, .string x.t] 51), A5.blk, _, fun y hy => cl hy 2, _, fun y hy => cl hy 2, _, fun y hy => cl hy 2, (yJj T5.A.at_ (by rw [T5.A.abs]; exact T5.A.inv) 0 (decide (x.b > 0))).mono ?_⟩
  rintro e w29 ⟨rfl, a2, va2, hLa2, ha2⟩
  rw [T5.A.abs] at ha2 ⊢
  have T6 := T5.stepA hLa2 ha2 (T5.A.inv.mark _ _)
  have A6 := A5.stepA hLa2
  refine ⟨_, rfl, A6.blk, (yJj T6.B.at_ (by rw [T6.B.abs]; exact T6.B.inv) 0 (decide (x.b > 0))).mono ?_⟩
  rintro e w30 ⟨rfl, b2, vb2, hLb2, hb2⟩
  rw [T6.B.abs] at hb2 ⊢
  have T7 := T6.stepB hLb2 hb2 (T6.B.inv.mark _ _)
  have A7 := A6.stepB hLb2
  refine ⟨_, rfl, A7.blk, (yJj T7.C.at_ (by rw [T7.C.abs]; exact T7.C.inv) 0 (decide (x.b > 0))).mono ?_⟩
  rintro e w31 ⟨rfl, c2, vc2, hLc2, hc2⟩
  rw [T7.C.abs] at hc2 ⊢
  have T8 := T7.stepC hLc2 hc2 (T7.C.inv.mark _ _)
  obtain ⟨g1, g2, hS5⟩ := yYn hS4 hm hk1 (decide (x.b > 0))
  refine ⟨_, rfl, Br.of (fun q => absurd g1 (zQ5 q)) (fun _ => Br.of (fun q => absurd (g1.trans g2.symm) (zQ5 q)) (fun _ => fin T8 hLa2.ptr hLb2.ptr hLc2.ptr hS5))⟩
 ·have T5 := T4.plus hp35
  have A5 := A4.pu hp35
  refine ⟨fun y => y.heap[w.heap.size]? = some (.cells #[.int .i64 x.op, .int .i64 x.a, .int .i64 x.b, .int .i64 x.c, .string x.s, .string x.t] 51), A5.blk, x.s, fun y hy => cl hy 4, _, fun y hy => cl hy 0, _, fun y hy => cl hy 1, _, fun y hy => cl hy 2, _, fun y hy => cl hy 3, _, fun y hy => cl hy 4, _, fun y hy => cl hy 5,
   x.s, fun y hy => cl hy 4, _, fun y hy => cl hy 0, _, fun y hy => cl hy 1, _, fun y hy => cl hy 2, _, fun y hy => cl hy 3, _, fun y hy => cl hy 4, _, fun y hy => cl hy 5, x.s, fun y hy => cl hy 4, _, fun y hy => cl hy 0, _, fun y hy => cl hy 1, _, fun y hy => cl hy 2, _, fun y hy => cl hy 3, _, fun y hy => cl hy 4, _, fun y hy => cl hy 5, (yZy x w35).mono ?_⟩
  rintro e w36 ⟨rfl, hp36⟩
  have T5' := T5.plus hp36
  have A5' := A5.pu hp36
  refine ⟨_, _, _, rfl, A5'.blk, (yK6 T5'.A.at_ (by rw [T5'.A.abs]; exact T5'.A.inv) 0 x.s (actV x)).mono ?_⟩
  rintro e w37 ⟨rfl, a2, va2, hLa2, ha2⟩
  rw [T5'.A.abs] at ha2 ⊢
  have T6 := T5'.stepA hLa2 ha2 (T5'.A.inv.set _ _ _)
  have A6 := A5'.stepA hLa2
  refine ⟨_, rfl, A6.blk, (yZy x w37).mono ?_⟩
  rintro e w38 ⟨rfl, hp38⟩
  have T6' := T6.plus hp38
  have A6' := A6.pu hp38
  refine ⟨_, _, _, rfl, A6'.blk, (yK6 T6'.B.at_ (by rw [T6'.B.abs]; exact T6'.B.inv) 0 x.s (actV x)).mono ?_⟩
  rintro e w39 ⟨rfl, b2, vb2, hLb2, hb2⟩
  rw [T6'.B.abs] at hb2 ⊢
  have T7 := T6'.stepB hLb2 hb2 (T6'.B.inv.set _ _ _)
  have A7 := A6'.stepB hLb2
  refine ⟨_, rfl, A7.blk, (yZy x w39).mono ?_⟩
  rintro e w40 ⟨rfl, hp40⟩
  have T7' := T7.plus hp40
  refine ⟨_, _, _, rfl, (A7.pu hp40).blk, (yK6 T7'.C.at_ (by rw [T7'.C.abs]; exact T7'.C.inv) 0 x.s (actV x)).mono ?_⟩
  rintro e w41 ⟨rfl, c2, vc2, hLc2, hc2⟩
  rw [T7'.C.abs] at hc2 ⊢
  have T8 := T7'.stepC hLc2 hc2 (T7'.C.inv.set _ _ _)
  obtain ⟨g1, g2, hS5⟩ := st_set hS4 hm hk1 x.s (actV x)
  refine ⟨_, rfl, Br.of (fun q => absurd g1 (zQ5 q)) (fun _ => Br.of (fun q => absurd (g1.trans g2.symm) (zQ5 q)) (fun _ => fin T8 hLa2.ptr hLb2.ptr hLc2.ptr hS5))⟩
theorem yXd (hP : TrP w0 w m t Sa Sb Sc) {f q : SV} (hT : RdT w0 t f q) {r3 : Nat} (hb : w0.heap[r3]? = some (.cells #[.int .i64 t.page, .slice f.a f.len f.cap, .slice q.a q.len q.cap] 25)) (h300 : t.recs.length <= 1000) {K : World -> Prop} (hK : ∀ y, Pu w0 y -> K y) :
  F4_1 (fun e w' => e = .returned (.bool true) /\ K w') (some ⟨r3, 0, none⟩) (some ⟨Sa, 0, none⟩) (some ⟨Sb, 0, none⟩) (some ⟨Sc, 0, none⟩) [] w := by
 obtain ⟨a, va, σa, b, vb, σb, c, vc, σc, k, eSa, eSb, eSc, T, hS, hC⟩ := hP
 obtain ⟨g1, g2⟩ := st_end hS T.A.inv T.B.inv
 obtain ⟨_, _, g3⟩ := yVW hS
 rw [← eSa]
 refine (zWN T.A.at_ (by rw [T.A.abs]; exact T.A.inv) 0 false).mono ?_
 rintro e w1 ⟨q1, rfl, -, a1, va1, hL1, h1⟩
 rw [T.A.abs] at h1 ⊢
 have T1 := T.stepA hL1 h1 (T.A.inv.storeE _ _)
 rw [g1, ← eSc, ← hL1.ptr]
 refine ⟨q1, 0, rfl, Br.of (fun e => absurd rfl (zQ5 e)) (fun _ => (zYY T1.C.at_ (by rw [T1.C.abs]; exact T1.C.inv) 0).mono ?_)⟩
 rintro e w3 ⟨rfl, c3, hL3, h3⟩
 rw [T1.C.abs] at h3
 have T3 := T1.stepC hL3 h3 (T1.C.inv.revert _)
 rw [← hL3.ptr]
 refine ⟨_, _, rfl, zQl fun w4 hp4 _ => ?_⟩
 have T4 := T3.plus hp4
 have hb4 := T4.A.pu.blk hb
 have back : ∀ {x x' : World} {d : zQq} {v : Nat -> List Val}, zQb x d 0 v -> zQ2 x x' d d 0 v -> Fr (· = d.S) x x' -> Pu x x' := fun {x x' d v} h hL hf => yJC h hL.sys hf
 refine ⟨fun y => y.heap[r3]? = some (.cells #[.int .i64 t.page, .slice f.a f.len f.cap, .slice q.a q.len q.cap] 25), hb4, (zYs T4.A.at_ (by rw [T4.A.abs]; exact T4.A.inv)).mono ?_⟩
 rintro e w5 ⟨fA, rA, rfl, hTA, hL5, hf5⟩
 have p5 := back T4.A.at_ hL5 hf5
 have T5 := T4.plus p5
 rw [T4.A.abs] at hTA ⊢
 refine ⟨_, fA, rA, rfl, p5.blk hb4, ?_⟩
 rw [← eSb]
 refine (zYs T5.B.at_ (by rw [T5.B.abs]; exact T5.B.inv)).mono ?_
 rintro e w6 ⟨fB, rB, rfl, hTB, hL6, hf6⟩
 have p6 := back T5.B.at_ hL6 hf6
 have T6 := T5.plus p6
 rw [T5.B.abs] at hTB ⊢
 rw [g2] at hTA ⊢
 have h3r := T.B.inv.r300
 refine ⟨_, fB, rB, rfl, (p5.trans p6).blk hb4, (yJy (hTA.pu p6) hTB (by show σb.recs.length <= _; omega)).mono ?_⟩
 rintro e w7 ⟨rfl, hp7⟩
 have T7 := T6.plus hp7
 have hb7 := ((p5.trans p6).trans hp7).blk hb4
 refine ⟨_, rfl, hb7, Br.of (fun _ => ⟨_, fun y hy => cl hy 0, f, fun y hy => cl hy 1, q, fun y hy => cl hy 2, (zYs T7.C.at_ (by rw [T7.C.abs]; exact T7.C.inv)).mono ?_⟩) (fun e => by simp at e)⟩
 rintro e w9 ⟨fC, rC, rfl, hTC, hL9, hf9⟩
 have p9 := back T7.C.at_ hL9 hf9
 have T9 := T7.plus p9
 rw [T7.C.abs, g3] at hTC ⊢
 refine ⟨_, fC, rC, rfl, p9.blk hb7, (yJy hTC (hT.pu T9.A.pu) (by omega)).mono ?_⟩
 rintro e w10 ⟨rfl, hp10⟩
 refine ⟨_, rfl, Br.of (fun _ => (yZX w10).mono ?_) (fun e => by simp at e)⟩
 rintro e w11 ⟨rfl, hp11⟩
 exact ⟨true, rfl, rfl, hK _ ((T9.A.pu.trans hp10).trans hp11)⟩
end
theorem zYE (w : World) (t : Tbl) (f r : SV) (h : zKS w t f r) (hl : Lim.ok t) (s : SV) (l : List Act) (hs : zXH w s l) (_ : Lim.ok l) (n : Int) (_ : Lim.ok n) : Calls prog 4 #[yKq t f r, .slice s.a s.len s.cap, .int .i64 n] w fun e w' => e = .returned (.bool true) /\ Pu w w' := by
 refine yWa _ _ _ _ n w _ (alB fun w1 hp1 hb1 => ⟨_, cl hb1 0, f, cl hb1 1, r, cl hb1 2, (over_c (h.pu hp1) (hs.pu hp1)).mono ?_⟩)
 rintro e w2 ⟨b, rfl, hp2, -⟩
 have hp02 := hp1.trans hp2
 have kn : ∀ {w4 : World}, Pu w w4 -> Calls prog 10 #[] w4 fun e w10 => ∃ b248 : Bool, e = .returned (.bool b248) /\ (Ending.returned (.bool b248) = .returned (.bool true) /\ Pu w w10) := fun {w4} hp => by
  refine (yZX w4).mono ?_
  rintro e w5 ⟨rfl, hp5⟩
  exact ⟨true, rfl, rfl, hp.trans hp5⟩
 refine ⟨b, rfl, Br.of (fun _ => kn hp02) (fun _ => Br.of (fun _ => kn hp02) (fun _ => ?_))⟩
 have hb2 := hp2.blk hb1
 have hT2 := h.pu hp02
 refine ⟨_, cl hb2 0, f, cl hb2 1, r, cl hb2 2, (yX8 hT2 hl.1).mono ?_⟩
 rintro e w3 ⟨hp3, bad3, good3⟩
 have hb3 := hp3.blk hb2
 have hT3 := hT2.pu hp3
 by_cases hv : zX0 t = 0
 ·obtain ⟨da, va, rfl, hDa, haa, hna⟩ := good3 hv
  refine ⟨some ⟨da.S, 0, none⟩, 0, rfl, _, cl hb3 0, f, cl hb3 1, r, cl hb3 2, (yX8 hT3 hl.1).mono ?_⟩
  rintro e w4 ⟨hp4, -, good4⟩
  obtain ⟨db, vb, rfl, hDb, hbb, hnb⟩ := good4 hv
  have hb4 := hp4.blk hb3
  refine ⟨some ⟨db.S, 0, none⟩, 0, rfl, _, cl hb4 0, f, cl hb4 1, r, cl hb4 2, (yX8 (hT3.pu hp4) hl.1).mono ?_⟩
  rintro e w5 ⟨hp5, -, good5⟩
  obtain ⟨dc, vc, rfl, hDc, hcc, hnc⟩ := good5 hv
  have z3 := hp3.size
  have z4 := hp4.size
  have hI := zYI hv
  have far : ∀ {x y : zQq} {N : Nat}, (∀ k, x.o k ≠ none -> k < N) -> (∀ k, y.o k ≠ none -> N <= k) -> Ap x y := fun {x y N} h1 h2 k hk => by
   cases e : y.o k with
   | none => rfl
   | some κ => have q1 := h1 k hk; have q2 := h2 k (by rw [e]; simp); omega
  have T : Tri w2 w5 da va (Dsk.new t) db vb (Dsk.new t) dc vc (Dsk.new t) :=
   ⟨⟨(hp3.trans hp4).trans hp5, (hDa.pu hp4).pu hp5, haa, hI, hna⟩, ⟨(hp3.trans hp4).trans hp5, hDb.pu hp5, hbb, hI, fun b hb => Nat.le_trans z3 (hnb b hb)⟩, ⟨(hp3.trans hp4).trans hp5, hDc, hcc, hI, fun b hb => Nat.le_trans (Nat.le_trans z3 z4) (hnc b hb)⟩,
    far hDa.bd.lt hnb, far (fun k hk => Nat.lt_of_lt_of_le (hDa.bd.lt k hk) z4) hnc, far hDb.bd.lt hnc⟩
  refine ⟨some ⟨dc.S, 0, none⟩, 0, rfl, Br.of (fun c => absurd rfl (zQ5 c)) (fun _ => ⟨false, w5, zVh _ _ _ w5, Br.of (fun c => by cases c) (fun _ => ⟨false, w5, zVh _ _ _ w5, Br.of (fun c => by cases c) (fun _ => ⟨false, w5, zVh _ _ _ w5, Br.of (fun c => by cases c) (fun _ => ?_)⟩)⟩)⟩)⟩
  have q1 := Int.tmod_lt_of_pos n (b := 4) (by omega)
  have q2 := Int.lt_tmod_of_pos n (b := 4) (by omega)
  have q3 := Int.tmod_lt_of_pos (n.tmod 4 + 4) (b := 4) (by omega)
  have q4 := Int.tmod_nonneg (a := n.tmod 4 + 4) 4 (by omega)
  have em : IntKind.i64.wrap (((IntKind.i64.wrap ((n.tmod 4) + 4)).tmod 4) + 1) = (n.tmod 4 + 4).tmod 4 + 1 := by
   rw [zQe (n := n.tmod 4 + 4) (by omega) (by omega), zQe (by omega) (by omega)]
  rw [em]
  generalize hmm : (n.tmod 4 + 4).tmod 4 + 1 = m
  have m1 : 1 <= m := by omega
  have m4 : m <= 4 := by omega
  obtain ⟨k0, hS0, hC0⟩ := yYu (t := t) m1 m4
  refine ⟨rfl, by decide, rfl, by decide, (yKf T.A.at_ 0 m).mono ?_⟩
  rintro e w6 ⟨rfl, a6, hL6, h6⟩
  rw [T.A.abs] at h6 ⊢
  have T6 := T.stepA hL6 h6 (hI.mode _ _)
  rw [k0]
  refine ⟨0, rfl, Br.of (fun c => absurd rfl (zQ5 c)) (fun _ => (yKf T6.C.at_ 0 m).mono ?_)⟩
  rintro e w7 ⟨rfl, c7, hL7, h7⟩
  rw [T6.C.abs] at h7 ⊢
  have T7 := T6.stepC hL7 h7 (hI.mode _ _)
  rw [k0]
  refine ⟨0, rfl, Br.of (fun c => absurd rfl (zQ5 c)) (fun _ => ?_)⟩
  have hs2 := hs.pu hp02
  have hlen := hs.len
  have hlim := hs.lim
  refine zQ8 l.length (fun i t' w' => t' = (i : Int) /\ TrP w2 w' m t da.S db.S dc.S) ⟨rfl, a6, va, _, db, vb, _, c7, vc, _, 0, hL6.ptr, rfl, hL7.ptr, T7, hS0, hC0⟩ ?_
  rintro i J t' w8 hi ⟨ht, hP⟩ hJ
  obtain rfl : t' = (i : Int) := ht
  refine Br.of (fun d1 => ?_) (fun _ => ?_)
  ·have hi2 : i < l.length := by have := zQn d1; omega
   refine zY1 m1 m4 hP hs2 hi2 fun y hy => ?_
   rw [zQe (by omega) (by omega)]
   exact hJ _ _ hi2 ⟨by omega, hy⟩
  ·exact yXd hP ⟨RdF.of hT2.fields, zZ4.of hT2.recs⟩ hb2 (by have := hI.r300; have e : (Dsk.new t).recs = t.recs := rfl; rw [e] at this; omega) fun y hy => hp02.trans hy
 ·rw [bad3 hv]
  refine ⟨none, _, rfl, _, cl hb3 0, f, cl hb3 1, r, cl hb3 2, (yX8 hT3 hl.1).mono ?_⟩
  rintro e w4 ⟨hp4, bad4, -⟩
  rw [bad4 hv]
  have hb4 := hp4.blk hb3
  refine ⟨none, _, rfl, _, cl hb4 0, f, cl hb4 1, r, cl hb4 2, (yX8 (hT3.pu hp4) hl.1).mono ?_⟩
  rintro e w5 ⟨hp5, bad5, -⟩
  rw [bad5 hv]
  have hb5 := hp5.blk hb4
  refine ⟨none, _, rfl, Br.of (fun _ => Br.of (fun _ => ⟨_, cl hb5 0, f, cl hb5 1, r, cl hb5 2, (zY2 ((hT3.pu hp4).pu hp5)).mono ?_⟩) (fun c => by cases c)) (fun c => absurd (zQv c) hv)⟩
  rintro e w6 ⟨rfl, hp6⟩
  have hp06 := ((hp02.trans hp3).trans (hp4.trans hp5)).trans hp6
  exact ⟨_, rfl, Br.of (fun _ => Br.of (fun _ => kn hp06) (fun c => absurd (zQv c) hv)) (fun c => by simp at c)⟩
end Go.Proofs.YtcihcbfcgjepfaaGreatDoor
