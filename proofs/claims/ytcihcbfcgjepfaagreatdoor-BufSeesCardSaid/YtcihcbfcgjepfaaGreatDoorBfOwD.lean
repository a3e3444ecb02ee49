import Derived.Test.YtcihcbfcgjepfaaGreatDoorBfOwC
import Derived.Test.YtcihcbfcgjepfaaGreatDoorBfPrB
import Derived.Test.YtcihcbfcgjepfaaGreatDoorShEleven
import Derived.RangeFuncBox
import Derived.RangeFuncLeaves
import Derived.RangeFuncBound
import Derived.RangeFuncNested
import Derived.Shelf.Abstract
import Derived.WalkKit
import Derived.OwnWalkIn
import Derived.TacticsInMore
import Derived.LoopNIn
import Derived.LoopIn
import Derived.Maps.AppendAt
import Derived.Sort.MapsRangeIn
import Derived.Sort.OwnSortedInts
import Derived.Test.YtcihcbfcgjepfaaGreatDoorBfSortI
import Derived.Test.YtcihcbfcgjepfaaGreatDoorBfPrA
import Derived.Test.YtcihcbfcgjepfaaGreatDoorShSeventeen
/- Desks: the lock of a record; what Set and Mark do with the record at which a user is. No condition but those stated. -/
set_option maxRecDepth 100000
set_option linter.unusedVariables false
set_option linter.unusedSimpArgs false
namespace Go.Proofs.YtcihcbfcgjepfaaGreatDoor
open Go.Sh Go.RowKit Tryz
variable {w w' : World} {d d' : zQr} {val : Nat -> List Val} {mu : Int}
theorem zQh.lks (h : zQh w d mu val) {lk' : Int -> Option Int} {l : List (Int × Int)} (hf : Fr (· = d.L) w w') (hl : zQ8 w' zXu zXu d.L l) (he : ∀ k, AL.get l k = lk' k) : zQh w' { d with lk := lk' } mu val :=
 ⟨hf.blk h.st fun e => (by
  have := h.bd.oS
  rw [show d.S = d.L from e, h.bd.oL] at this
  cases this), h.bd.lks hf hl fun k => (by rw [he, h.sd]; cases lk' k <;> rfl), h.sd⟩
theorem yXA (lk' : Int -> Option Int) : zQa { d with lk := lk' } val = { zQa d val with lk := lk' } := rfl
theorem lock_c (h : zQh w d 1 val) {u : Nat} (hu : u < 4) :
  Calls prog 113 #[d.ptr, .int .i64 (u : Int), .pointer (some (uA d u)), .int .i64 (d.at_ u)] w fun e w' => e = .returned (.int .i64 (lockC u (zQa d val))) /\
   ∃ lk', zQh w' { d with lk := lk' } 1 val /\ Fr (· = d.L) w w' /\ w'.heap.size = w.heap.size /\ { zQa d val with lk := lk' } = if lockC u (zQa d val) = 0 then lockS u (zQa d val) else zQa d val := by
 have eM : ((zQa d val).us u).mode = d.mode u := rfl
 have eA : ((zQa d val).us u).at_ = d.at_ u := rfl
 have eK : (zQa d val).lk = d.lk := rfl
 have stay : ∀ n : Int, lockC u (zQa d val) = n -> (n = 0 -> lockS u (zQa d val) = zQa d val) -> Ending.returned (.int .i64 n) = .returned (.int .i64 (lockC u (zQa d val))) /\
   ∃ lk', zQh w { d with lk := lk' } 1 val /\ Fr (· = d.L) w w /\ w.heap.size = w.heap.size /\ { zQa d val with lk := lk' } = if lockC u (zQa d val) = 0 then lockS u (zQa d val) else zQa d val := fun n hn h0 => by
  refine ⟨by rw [hn], d.lk, h, Fr.refl _ _, rfl, ?_⟩
  rw [hn]
  split
  ·rw [h0 ‹_›]; rfl
  ·rfl
 refine yXN _ _ _ _ w _ ⟨_, h.uMode hu, Br.of (fun c => ?_) (fun c => ⟨_, h.uMode hu, Br.of (fun c1 => ?_) (fun c1 => Br.of (fun c2 => ?_) (fun c2 => ?_))⟩)⟩
 ·have c := zQ6 c
  exact stay 0 (by simp only [lockC, eM, eA]; rw [if_pos (.inl c)]) fun _ => by simp only [lockS, eM, eA]; rw [if_pos (.inl c)]
 ·have c1 := zQ6 c1
  exact stay 0 (by simp only [lockC, eM, eA]; rw [if_pos (.inr (.inl c1))]) fun _ => by simp only [lockS, eM, eA]; rw [if_pos (.inr (.inl c1))]
 ·have c2 := zQn c2
  exact stay 0 (by simp only [lockC, eM, eA]; rw [if_pos (.inr (.inr c2))]) fun _ => by simp only [lockS, eM, eA]; rw [if_pos (.inr (.inr (.inl c2)))]
 have c := zQm c
 have c1 := zQm c1
 have c2 := zQg c2
 have eC : lockC u (zQa d val) = match d.lk (d.at_ u) with | some v => if v = (u : Int) then 0 else 12 | none => 0 := by
  simp only [lockC, eM, eA, eK]; rw [if_neg (by omega)]; rfl
 obtain ⟨l, hl, hk⟩ := h.lm
 refine ⟨some d.L, h.locks, _, _, w, yQp hl _, ?_⟩
 have take : lockC u (zQa d val) = 0 -> ∃ n45 : Int, w.cell? (uA d u) = some (.int .i64 n45) /\ Br (n45 != 0) (zQi (some ⟨d.S, 0, none⟩) fun a3 => ∃ m50 : Option Nat, w.cell? (a3.add 21) = some (.map m50) /\ doE prog (Instr.mapUpdate 80 (.map m50) (.int .i64 (d.at_ u)) (.int .i64 (u : Int))) w fun w4 => zQd prog [] w4 fun w5 =>
   Ending.returned (.int .i64 0) = .returned (.int .i64 (lockC u (zQa d val))) /\ ∃ lk', zQh w5 { d with lk := lk' } 1 val /\ Fr (· = d.L) w w5 /\ w5.heap.size = w.heap.size /\ { zQa d val with lk := lk' } = if lockC u (zQa d val) = 0 then lockS u (zQa d val) else zQa d val)
   (zQd prog [] w fun w6 => Ending.returned (.int .i64 0) = .returned (.int .i64 (lockC u (zQa d val))) /\ ∃ lk', zQh w6 { d with lk := lk' } 1 val /\ Fr (· = d.L) w w6 /\ w6.heap.size = w.heap.size /\ { zQa d val with lk := lk' } = if lockC u (zQa d val) = 0 then lockS u (zQa d val) else zQa d val) := fun h0 => by
  refine ⟨_, h.uMode hu, Br.of (fun c3 => ?_) (fun c3 => ?_)⟩
  ·have c3 := zQC c3
   obtain ⟨w4, hrun, hm4, hf4, hs4⟩ := hl.upd (P := prog) zV8 xZd (d.at_ u) (u : Int)
   refine ⟨some d.L, h.locks, w4, hrun, by rw [h0], fun k => if k = d.at_ u then some (u : Int) else d.lk k, h.lks hf4 hm4 fun k => ?_, hf4, hs4, ?_⟩
   ·rw [AL.get_put]
    by_cases e : d.at_ u = k
    ·rw [if_pos e, if_pos e.symm]
    ·rw [if_neg e, if_neg (Ne.symm e), hk]
   ·rw [if_pos h0]
    simp only [lockS, eM, eA, eK]; rw [if_neg (by omega)]
  ·have c3 := zQw c3
   exact stay 0 h0 fun _ => by simp only [lockS, eM, eA]; rw [if_pos (.inr (.inr (.inr c3)))]
 refine Br.of (fun c3 => ?_) (fun c3 => ?_)
 ·obtain ⟨v, hv⟩ := Option.isSome_iff_exists.1 c3
  have hv' := hv
  rw [hk] at hv'
  rw [hv'] at eC
  rw [hv]
  refine Br.of (fun c4 => ?_) (fun c4 => ?_)
  ·have c4 : v ≠ (u : Int) := zQC c4
   exact stay 12 (by rw [eC]; simp [c4]) fun e => by cases e
  ·have c4 : v = (u : Int) := zQw c4
   exact take (by rw [eC]; simp [c4])
 ·have hv : AL.get l (d.at_ u) = none := by simpa using c3
  rw [hk] at hv
  rw [hv] at eC
  exact take eC
inductive Do1
 | set (i : Nat) (v : Val)
 | mark (g : Bool)
def Do1.f : Do1 -> Rec -> Rec
 | .set i v => setVal i v
 | .mark g => zZD g
def zZE (A : Do1) (f : Nat) (cap : Array Value) (w : World) (D : Nat -> Prop) : Prop := match A with
 | .set i v => f = 54 /\ ∃ r s : Nat, cap = #[.pointer (some ⟨r, 0, none⟩), .pointer (some ⟨s, 0, none⟩)] /\ w.heap[r]? = some (.cells #[.int .i64 v.kind, .int .i64 v.n, .string v.s] 28) /\ w.heap[s]? = some (.cells #[.int .i64 (i : Int)] 3) /\ ¬ D r /\ ¬ D s
 | .mark g => f = 57 /\ ∃ r : Nat, cap = #[.pointer (some ⟨r, 0, none⟩)] /\ w.heap[r]? = some (.cells #[.bool g] 4) /\ ¬ D r
theorem zZE.fr {A : Do1} {f : Nat} {cap : Array Value} {D B : Nat -> Prop} (h : zZE A f cap w D) (hf : Fr B w w') (hb : ∀ b, b < w.heap.size -> B b -> D b) : zZE A f cap w' D := by
 cases A with
 | set i v =>
  obtain ⟨h1, r, s, h2, h3, h4, h5, h6⟩ := h
  exact ⟨h1, r, s, h2, hf.blk h3 fun e => h5 (hb _ (zQA h3) e), hf.blk h4 fun e => h6 (hb _ (zQA h4) e), h5, h6⟩
 | mark g =>
  obtain ⟨h1, r, h2, h3, h5⟩ := h
  exact ⟨h1, r, h2, hf.blk h3 fun e => h5 (hb _ (zQA h3) e), h5⟩
theorem zZE.body {A : Do1} {f : Nat} {cap : Array Value} {D : Nat -> Prop} (h : zZE A f cap w D) : zXF prog f = true := by
 cases A with
 | set i v => obtain ⟨rfl, _⟩ := h; kernel_rfl
 | mark g => obtain ⟨rfl, _⟩ := h; kernel_rfl
theorem yKL {a : Addr} {s : SV} {l : List Val} {r7 r12 i : Nat} {v : Val} (hs : w.cell? (a.add 1) = some (.slice s.a s.len s.cap)) (hrow : zQj w 28 3 s (l.flatMap zXH)) (hi : i < l.length)
  (h7 : w.heap[r7]? = some (.cells #[.int .i64 v.kind, .int .i64 v.n, .string v.s] 28)) (h12 : w.heap[r12]? = some (.cells #[.int .i64 (i : Int)] 3)) :
  Calls prog 54 #[.pointer (some a), .pointer (some ⟨r7, 0, none⟩), .pointer (some ⟨r12, 0, none⟩)] w fun e w' => e = .returned (.tuple #[]) /\ zQj w' 28 3 s ((l.set i v).flatMap zXH) /\ Fr (· ∈ zQb s) w w' /\ w'.heap.size = w.heap.size := by
 refine yJZ _ _ _ w _ (zQf fun w1 hp1 hh1 => ?_)
 have hz : w1.heap.size = w.heap.size := by rw [hh1]
 have hrow1 := hrow.pu hp1
 obtain ⟨a5, ha5, hst⟩ := hrow1.stElem (P := prog) (t := 28) zQI (by decide) hi v zKR.symm rfl (K := fun w' => Ending.returned (.tuple #[]) = .returned (.tuple #[]) /\ zQj w' 28 3 s ((l.set i v).flatMap zXH) /\ Fr (· ∈ zQb s) w w' /\ w'.heap.size = w.heap.size) fun w' g1 g2 g3 => ⟨rfl, g1, (Fr.pu hp1 : Fr (· ∈ zQb s) w w1).trans g2 fun i hi _ => hi, by rw [g3, hz]⟩
 have hl := hrow.len zQI (by decide)
 refine ⟨s, hp1.cell hs, (i : Int), cl0 (hp1.blk h12), _, cl (hp1.blk h7) 0, _, cl (hp1.blk h7) 1, _, cl (hp1.blk h7) 2, a5, ha5, by omega, by omega, ?_⟩
 rw [zQL]
 exact hst
theorem yQ3 {a : Addr} {r : Nat} {g : Bool} {R : Rt} (hr : w.heap[r]? = some (.cells #[.bool g] 4)) (h : st1 a (.bool g) w fun w' => R (.returned (.tuple #[])) w') : Calls prog 57 #[.pointer (some a), .pointer (some ⟨r, 0, none⟩)] w R :=
 yKX _ _ w _ ⟨g, cl0 hr, h⟩
theorem zXX {α : Type} {f g : α -> α} : ∀ {l : List α} {i : Nat} {x : α}, l[i]? = some x -> f x = g x -> l.modify i f = l.modify i g
 | [], i, x, h, _ => by simp at h
 | y :: l, 0, x, h, e => by simp at h; subst h; simp [e]
 | y :: l, i + 1, x, h, e => by simp only [List.modify_succ_cons]; rw [zXX (by simpa using h) e]
theorem zXO {α : Type} {f : α -> α} : ∀ {l : List α} {i : Nat} {x : α}, l[i]? = some x -> l.set i (f x) = l.modify i f
 | [], i, x, h => by simp at h
 | y :: l, 0, x, h => by simp at h; subst h; rfl
 | y :: l, i + 1, x, h => by simp only [List.modify_succ_cons, List.set_cons_succ]; rw [zXO (by simpa using h)]
theorem zWk : ∀ {l : List zQy} {i : Nat} {x y : zQy}, l[i]? = some x -> x.s = y.s -> vB (l.set i y) = vB l
 | [], i, x, y, h, _ => by simp at h
 | z :: l, 0, x, y, h, e => by simp at h; subst h; simp [vB, e]
 | z :: l, i + 1, x, y, h, e => by
  rw [List.set_cons_succ, zXd, zXd, zWk (by simpa using h) e]
theorem zWH {u : Nat} {o' : Nat -> Option zX4} {rh' ah' : List zQy} {cs' : SV} {ch' : List Chg} : zQZ mu (d.gen u o' d.rs rh' (d.asv u) ah' cs' ch' (d.C u)) = zQZ mu d := by
 have e1 : (fun v => if v = u then d.asv u else d.asv v) = d.asv := by funext v; by_cases e : v = u <;> simp [e]
 have e2 : (fun v => if v = u then d.C u else d.C v) = d.C := by funext v; by_cases e : v = u <;> simp [e]
 have e3 : (d.gen u o' d.rs rh' (d.asv u) ah' cs' ch' (d.C u)).asv = d.asv := e1
 have e4 : (d.gen u o' d.rs rh' (d.asv u) ah' cs' ch' (d.C u)).C = d.C := e2
 simp only [zQZ, e3, e4]
 rfl
theorem zQh.setVal (h : zQh w d mu val) {x : zQy} (hx : x ∈ zXf d) {a : Addr} (ha : x.s.a = some a) {l' : List Val} (hf : Fr (· ∈ zQb x.s) w w') (hrow : zQj w' 28 3 x.s (l'.flatMap zXH)) : zQh w' d mu (zX6 val a.block l') := by
 have hb : a.block ∈ zQb x.s := by simp [zQb, ha]
 have hV : d.o a.block = some .V := h.bd.oV _ (zXk hx hb)
 have hf' : Fr (· = a.block) w w' := hf.mono fun i hi _ => by simpa [zQb, ha] using hi
 exact ⟨hf'.blk h.st fun e => (by rw [← show d.S = a.block from e, h.bd.oS] at hV; cases hV), h.bd.setVal hx ha hf' hrow, h.sd⟩
theorem zXy {s : SV} {l : List Val} {i : Nat} (h : zQj w 28 3 s (l.flatMap zXH)) (hi : i < l.length) : ∃ a, s.a = some a := by
 obtain ⟨v, hv⟩ := zXg hi
 obtain ⟨a, ha, _⟩ := h.elem zQI hv (o := 0) rfl
 exact ⟨a, ha⟩
abbrev Own (d : zQr) : Nat -> Prop := fun b => d.o b ≠ none
theorem do_ap (h : zQh w d 1 val) {u : Nat} (hu : u < 4) {A : Do1} {f : Nat} {cap : Array Value} (hc : zZE A f cap w (Own d)) {i : Nat} {x : zQy} (hx : (d.ah u)[i]? = some x) (hA : ∀ j v, A = .set j v -> j < (hv val x).length) {a : Addr} (ha : (d.asv u).a = some a) :
  Calls prog f (([.pointer (some (a.add (i * 2)))] : List Value) ++ cap.toList).toArray w fun e w' => e = .returned (.tuple #[]) /\ ∃ d' val', zQh w' d' 1 val' /\ Fr (Own d) w w' /\ d'.o = d.o /\ d'.S = d.S /\
   zQa d' val' = (zQa d val).setU u { (zQa d val).us u with ap := ((zQa d val).us u).ap.modify i A.f } := by
 have hm : x ∈ zXf d := zX8 hu (List.mem_of_getElem? hx)
 have hap : ((zQa d val).us u).ap[i]? = some (toR val x) := by show ((d.ah u).map (toR val))[i]? = _; rw [List.getElem?_map, hx]; rfl
 cases A with
 | set j v =>
  obtain ⟨rfl, r, s, rfl, h3, h4, _, _⟩ := hc
  obtain ⟨a1, ha1, _, hcl⟩ := (h.bd.aw u hu).elem zQk hx (o := 1) (v := .slice x.s.a x.s.len x.s.cap) rfl
  rw [ha] at ha1; cases ha1
  have hj := hA j v rfl
  obtain ⟨b, hb⟩ := zXy (h.bd.vr x hm) hj
  show Calls prog 54 #[.pointer (some (a.add (i * 2))), .pointer (some ⟨r, 0, none⟩), .pointer (some ⟨s, 0, none⟩)] w _
  refine Calls.mono (yKL hcl (h.bd.vr x hm) hj h3 h4) ?_
  rintro e w1 ⟨rfl, hr1, hf1, hs1⟩
  refine ⟨rfl, d, _, h.setVal hm hb hf1 hr1, hf1.mono fun c hc _ => by rw [Own, h.bd.oV c (zXk hm hc)]; simp, rfl, rfl, ?_⟩
  rw [zVt h.bd.nd h.bd.low hu hx hb]
  rw [zXX (f := fun r => { r with v := (hv val x).set j v }) (g := (Do1.set j v).f) hap rfl]
 | mark g =>
  obtain ⟨rfl, r, rfl, h3, _⟩ := hc
  have hi : i < (d.ah u).length := (List.getElem?_eq_some_iff.1 hx).1
  show Calls prog 57 #[.pointer (some (a.add (i * 2))), .pointer (some ⟨r, 0, none⟩)] w _
  refine yQ3 h3 ?_
  obtain ⟨a1, ha1, hst⟩ := (h.bd.aw u hu).stField (i := i) (o := 0) zQk hi (by decide) { x with g := g } (.bool g) (fun y hy => by rw [hx] at hy; cases hy; rfl) (K := fun w1 => Ending.returned (.tuple #[]) = .returned (.tuple #[]) /\ ∃ d' val', zQh w1 d' 1 val' /\ Fr (Own d) w w1 /\ d'.o = d.o /\ d'.S = d.S /\
   zQa d' val' = (zQa d val).setU u { (zQa d val).us u with ap := ((zQa d val).us u).ap.modify i (Do1.mark g).f }) fun w1 hr1 hf1 hs1 => by
   have own : ∀ b ∈ zQb (d.asv u), d.o b = some (.A u) := h.bd.oA u hu
   have hbd : zQG w1 (d.gen u d.o d.rs d.rh (d.asv u) ((d.ah u).set i { x with g := g }) (d.cs u) (d.ch u) (d.C u)) val := by
    have ne : ∀ {b : Nat} {κ : zX4}, d.o b = some κ -> κ ≠ .A u -> ¬ b ∈ zQb (d.asv u) := fun {b κ} hb hk e => by rw [own b e] at hb; exact hk (Option.some.inj hb).symm
    refine h.bd.gen hu hf1 (fun b κ hb _ _ hk _ => ⟨ne hb hk, hb⟩) h.bd.oS (h.bd.rw_.fr hf1 fun b hb => ne (h.bd.oR b hb) (by simp)) h.bd.oR hr1 own (fun e => ⟨(h.bd.mp e u hu).fr hf1 (ne (h.bd.oC e u hu) (by simp)), h.bd.oC e u hu⟩) (fun e => ⟨(h.bd.ml e u hu).fr hf1 fun b hb => ne (h.bd.oK e u hu b hb) (by simp), h.bd.oK e u hu⟩) (fun y hy => ?_) ?_ (fun b hb => Nat.lt_of_lt_of_le (h.bd.lt b hb) hf1.size)
    ·left
     simp only [List.mem_append] at hy
     rcases hy with (hy | hy) | hy
     ·exact ⟨y, zZn hu (List.mem_append_left _ hy), rfl⟩
     ·rcases List.mem_or_eq_of_mem_set hy with hy | rfl
      ·exact ⟨y, zX8 hu hy, rfl⟩
      ·exact ⟨x, hm, rfl⟩
     ·exact ⟨y, zQK hy, rfl⟩
    ·have hnd := (yZo hu).1 h.bd.nd
     have e : zXa d u = d.rh ++ (zXa d u).drop d.rh.length := by simp [zXa]
     rw [e] at hnd
     unfold zKM
     rw [zQt, zQt, zWk (y := { x with g := g }) hx rfl, ← zQt, ← zQt]
     exact hnd
   refine ⟨rfl, _, val, ⟨?_, hbd, h.sd⟩, hf1.mono fun c hc _ => by rw [Own, own c hc]; simp, rfl, rfl, ?_⟩
   ·rw [zWH]
    exact hf1.blk h.st fun e => by have := own _ e; rw [show (d.gen u d.o d.rs d.rh (d.asv u) ((d.ah u).set i { x with g := g }) (d.cs u) (d.ch u) (d.C u)).S = d.S from rfl, h.bd.oS] at this; cases this
   ·rw [zWq, List.map_set]
    have e1 : toR val { x with g := g } = zZD g (toR val x) := rfl
    rw [e1, show (d.ah u).map (toR val) = ((zQa d val).us u).ap from rfl, zXO hap]
    rfl
  rw [ha] at ha1; cases ha1
  rw [yQM] at hst
  exact hst
theorem do_rec (h : zQh w d 1 val) {A : Do1} {f : Nat} {cap : Array Value} (hc : zZE A f cap w (Own d)) {i : Nat} {x : zQy} (hx : d.rh[i]? = some x) (hA : ∀ j v, A = .set j v -> j < (hv val x).length) {a : Addr} (ha : d.rs.a = some a) :
  Calls prog f (([.pointer (some (a.add (i * 2)))] : List Value) ++ cap.toList).toArray w fun e w' => e = .returned (.tuple #[]) /\ ∃ d' val', zQh w' d' 1 val' /\ Fr (Own d) w w' /\ d'.o = d.o /\ d'.S = d.S /\
   zQa d' val' = { zQa d val with recs := (zQa d val).recs.modify i A.f } := by
 have hm : x ∈ zXf d := zQK (List.mem_of_getElem? hx)
 have hu : 0 < 4 := by decide
 have hap : (zQa d val).recs[i]? = some (toR val x) := by show (d.rh.map (toR val))[i]? = _; rw [List.getElem?_map, hx]; rfl
 cases A with
 | set j v =>
  obtain ⟨rfl, r, s, rfl, h3, h4, _, _⟩ := hc
  obtain ⟨a1, ha1, _, hcl⟩ := h.bd.rw_.elem zQk hx (o := 1) (v := .slice x.s.a x.s.len x.s.cap) rfl
  rw [ha] at ha1; cases ha1
  have hj := hA j v rfl
  obtain ⟨b, hb⟩ := zXy (h.bd.vr x hm) hj
  show Calls prog 54 #[.pointer (some (a.add (i * 2))), .pointer (some ⟨r, 0, none⟩), .pointer (some ⟨s, 0, none⟩)] w _
  refine Calls.mono (yKL hcl (h.bd.vr x hm) hj h3 h4) ?_
  rintro e w1 ⟨rfl, hr1, hf1, hs1⟩
  refine ⟨rfl, d, _, h.setVal hm hb hf1 hr1, hf1.mono fun c hc _ => by rw [Own, h.bd.oV c (zXk hm hc)]; simp, rfl, rfl, ?_⟩
  rw [zZL h.bd.nd h.bd.low hx hb]
  rw [zXX (f := fun r => { r with v := (hv val x).set j v }) (g := (Do1.set j v).f) hap rfl]
 | mark g =>
  obtain ⟨rfl, r, rfl, h3, _⟩ := hc
  have hi : i < d.rh.length := (List.getElem?_eq_some_iff.1 hx).1
  show Calls prog 57 #[.pointer (some (a.add (i * 2))), .pointer (some ⟨r, 0, none⟩)] w _
  refine yQ3 h3 ?_
  obtain ⟨a1, ha1, hst⟩ := h.bd.rw_.stField (i := i) (o := 0) zQk hi (by decide) { x with g := g } (.bool g) (fun y hy => by rw [hx] at hy; cases hy; rfl) (K := fun w1 => Ending.returned (.tuple #[]) = .returned (.tuple #[]) /\ ∃ d' val', zQh w1 d' 1 val' /\ Fr (Own d) w w1 /\ d'.o = d.o /\ d'.S = d.S /\
   zQa d' val' = { zQa d val with recs := (zQa d val).recs.modify i (Do1.mark g).f }) fun w1 hr1 hf1 hs1 => by
   have own : ∀ b ∈ zQb d.rs, d.o b = some .R := h.bd.oR
   have hbd : zQG w1 (d.gen 0 d.o d.rs (d.rh.set i { x with g := g }) (d.asv 0) (d.ah 0) (d.cs 0) (d.ch 0) (d.C 0)) val := by
    have ne : ∀ {b : Nat} {κ : zX4}, d.o b = some κ -> κ ≠ .R -> ¬ b ∈ zQb d.rs := fun {b κ} hb hk e => by rw [own b e] at hb; exact hk (Option.some.inj hb).symm
    refine h.bd.gen hu hf1 (fun b κ hb _ hk _ _ => ⟨ne hb hk, hb⟩) h.bd.oS hr1 own ((h.bd.aw 0 hu).fr hf1 fun b hb => ne (h.bd.oA 0 hu b hb) (by simp)) (h.bd.oA 0 hu) (fun e => ⟨(h.bd.mp e 0 hu).fr hf1 (ne (h.bd.oC e 0 hu) (by simp)), h.bd.oC e 0 hu⟩) (fun e => ⟨(h.bd.ml e 0 hu).fr hf1 fun b hb => ne (h.bd.oK e 0 hu b hb) (by simp), h.bd.oK e 0 hu⟩) (fun y hy => ?_) ?_ (fun b hb => Nat.lt_of_lt_of_le (h.bd.lt b hb) hf1.size)
    ·left
     simp only [List.mem_append] at hy
     rcases hy with (hy | hy) | hy
     ·exact ⟨y, zZn hu (List.mem_append_left _ hy), rfl⟩
     ·exact ⟨y, zX8 hu hy, rfl⟩
     ·rcases List.mem_or_eq_of_mem_set hy with hy | rfl
      ·exact ⟨y, zQK hy, rfl⟩
      ·exact ⟨x, hm, rfl⟩
    ·have hnd := (yZo hu).1 h.bd.nd
     have e : zXa d 0 = d.rh ++ (zXa d 0).drop d.rh.length := by simp [zXa]
     rw [e] at hnd
     unfold zKM
     rw [zQt, zQt (d.rh.set _ _), zWk (y := { x with g := g }) hx rfl, ← zQt, ← zQt]
     exact hnd
   refine ⟨rfl, _, val, ⟨?_, hbd, h.sd⟩, hf1.mono fun c hc _ => by rw [Own, own c hc]; simp, rfl, rfl, ?_⟩
   ·have e : zQZ 1 (d.gen 0 d.o d.rs (d.rh.set i { x with g := g }) (d.asv 0) (d.ah 0) (d.cs 0) (d.ch 0) (d.C 0)) = zQZ 1 d := zWH
    rw [e]
    exact hf1.blk h.st fun e => by have := own _ e; rw [show (d.gen 0 d.o d.rs (d.rh.set i { x with g := g }) (d.asv 0) (d.ah 0) (d.cs 0) (d.ch 0) (d.C 0)).S = d.S from rfl, h.bd.oS] at this; cases this
   ·rw [zWq, List.map_set]
    have e1 : toR val { x with g := g } = zZD g (toR val x) := rfl
    rw [e1, show d.rh.map (toR val) = (zQa d val).recs from rfl, zXO hap]
    simp only [Dsk.setU, Dsk.mk.injEq, true_and, and_true]
    refine ⟨rfl, ?_⟩
    funext v
    by_cases e : v = 0
    ·rw [if_pos e, e]; rfl
    ·rw [if_neg e]
  rw [ha] at ha1; cases ha1
  rw [yQM] at hst
  exact hst
end Go.Proofs.YtcihcbfcgjepfaaGreatDoor
/- Desks: a change of a record in a buffer; alter. No condition but those stated. -/
namespace Go.Proofs.YtcihcbfcgjepfaaGreatDoor
open Go.Sh Go.RowKit Tryz
variable {w w' : World} {d d' : zQr} {val : Nat -> List Val} {mu : Int}
theorem zZK (p : Chg) (l : List Chg) : chH (p :: l) = p.2.1 :: p.2.2 :: chH l := by simp [chH]
theorem zJz : ∀ (l : List Chg) (k : Int) (c : zQy × zQy), (chH (AL.put l k c)).Perm (c.1 :: c.2 :: chH (AL.del l k))
 | [], k, c => by simp [AL.put, AL.del, chH]
 | (a, b) :: l, k, c => by
  simp only [AL.put, AL.del]
  by_cases e : a = k
  ·rw [if_pos e, if_pos e, zZK]
  ·rw [if_neg e, if_neg e, zZK, zZK]
   exact (((zJz l k c).cons b.2).cons b.1).trans (List.perm_append_comm_assoc [b.1, b.2] [c.1, c.2] _)
theorem yQN : ∀ {l : List Chg} {k : Int} {x : zQy}, x ∈ chH (AL.del l k) -> x ∈ chH l
 | [], k, x, h => h
 | (a, b) :: l, k, x, h => by
  simp only [AL.del] at h
  by_cases e : a = k
  ·rw [if_pos e] at h
   rw [zZK]; exact List.mem_cons_of_mem _ (List.mem_cons_of_mem _ h)
  ·rw [if_neg e, zZK] at h
   rw [zZK]
   rcases List.mem_cons.1 h with rfl | h
   ·exact List.mem_cons_self ..
   ·refine List.mem_cons_of_mem _ ?_
    rcases List.mem_cons.1 h with rfl | h
    ·exact List.mem_cons_self ..
    ·exact List.mem_cons_of_mem _ (yQN h)
theorem zWa : ∀ {l : List Chg} {k : Int} {c : zQy × zQy}, AL.get l k = some c -> AL.put l k c = l
 | [], k, c, h => by cases h
 | (a, b) :: l, k, c, h => by
  simp only [AL.get] at h
  simp only [AL.put]
  by_cases e : a = k
  ·rw [if_pos e] at h; cases h; rw [if_pos e]
  ·rw [if_neg e] at h; rw [if_neg e, zWa h]
theorem yVc {val val' : Nat -> List Val} {c : zQy × zQy} {c' : Rec × Rec} {k : Int} (hc : (toR val' c.1, toR val' c.2) = c') : ∀ {l : List Chg}, (∀ x ∈ chH (AL.del l k), toR val' x = toR val x) -> (AL.put l k c).map (toC val') = AL.put (l.map (toC val)) k c'
 | [], _ => by simp [AL.put, toC, hc]
 | (a, b) :: l, h => by
  simp only [AL.del] at h
  by_cases e : a = k
  ·rw [if_pos e] at h
   simp only [AL.put, List.map_cons, toC, if_pos e]
   rw [hc]
   congr 1
   refine List.map_congr_left fun p hp => ?_
   have h1 : p.2.1 ∈ chH l := List.mem_flatMap.2 ⟨p, hp, by simp⟩
   have h2 : p.2.2 ∈ chH l := List.mem_flatMap.2 ⟨p, hp, by simp⟩
   rw [toC, toC, h _ h1, h _ h2]
  ·rw [if_neg e, zZK] at h
   simp only [AL.put, List.map_cons, if_neg e]
   rw [show toC val (a, b) = (a, (toR val b.1, toR val b.2)) from rfl]
   simp only [AL.put, if_neg e]
   rw [yVc hc fun x hx => h x (List.mem_cons_of_mem _ (List.mem_cons_of_mem _ hx))]
   congr 1
   rw [toC, h b.1 (List.mem_cons_self ..), h b.2 (List.mem_cons_of_mem _ (List.mem_cons_self ..))]
def ApC (d : zQr) (u : Nat) (k : Int) (c : zQy × zQy) : Prop := (vB (c.1 :: c.2 :: (chH (AL.del (d.ch u) k) ++ d.ah u ++ zXa d u))).Nodup
theorem ApC.gen {u : Nat} (hu : u < 4) {k : Int} {c : zQy × zQy} (h : ApC d u k c) {c2 : zQy} (hs : c2.s = c.2.s) : (vB (zKM d u d.rh (d.ah u) (AL.put (d.ch u) k (c.1, c2)))).Nodup := by
 have e : zXa d u = d.rh ++ (zXa d u).drop d.rh.length := by simp [zXa]
 have e2 : zKM d u d.rh (d.ah u) (AL.put (d.ch u) k (c.1, c2)) = chH (AL.put (d.ch u) k (c.1, c2)) ++ (d.ah u ++ zXa d u) := by rw [zKM, ← e, List.append_assoc]
 rw [e2]
 refine (zXA ((zJz (d.ch u) k (c.1, c2)).append_right _)).nodup_iff.2 ?_
 unfold ApC at h
 rw [zXd, zXd] at h
 rw [List.cons_append, List.cons_append, zXd, zXd, hs]
 have e3 : chH (AL.del (d.ch u) k) ++ (d.ah u ++ zXa d u) = chH (AL.del (d.ch u) k) ++ d.ah u ++ zXa d u := (List.append_assoc ..).symm
 rw [e3]
 exact h
theorem ApC.far {u : Nat} {k : Int} {c : zQy × zQy} (h : ApC d u k c) {y : zQy} (hy : y = c.1 ∨ y ∈ chH (AL.del (d.ch u) k) ++ d.ah u ++ zXa d u) : ∀ b ∈ zQb c.2.s, b ∉ zQb y.s := fun b hb hyb => by
 unfold ApC at h
 rw [zXd, zXd] at h
 obtain ⟨_, h2, h3⟩ := List.nodup_append.1 h
 rcases hy with rfl | hy
 ·exact h3 b hyb b (List.mem_append_left _ hb) rfl
 ·exact (List.nodup_append.1 h2).2.2 b hb b (zXk hy hyb) rfl
theorem oth_uH {u v : Nat} (hv : v < 4) (hne : v ≠ u) {x : zQy} (hx : x ∈ uH d v) : x ∈ zXa d u := by
 unfold zXa
 simp only [List.mem_append]
 rcases (by omega : v = 0 ∨ v = 1 ∨ v = 2 ∨ v = 3) with rfl | rfl | rfl | rfl
 ·right; left; rw [if_neg (Ne.symm hne)]; exact hx
 ·right; right; left; rw [if_neg (Ne.symm hne)]; exact hx
 ·right; right; right; left; rw [if_neg (Ne.symm hne)]; exact hx
 ·right; right; right; right; rw [if_neg (Ne.symm hne)]; exact hx
theorem yQn {u : Nat} {k : Int} {c : zQy × zQy} {c2 : zQy} {val' : Nat -> List Val} {o' : Nat -> Option zX4} {cs' : SV} (hl : Low d) (h : ApC d u k c) (same : ∀ y : zQy, (∀ b ∈ zQb c.2.s, b ∉ zQb y.s) -> toR val' y = toR val y) :
  zQa (d.gen u o' d.rs d.rh (d.asv u) (d.ah u) cs' (AL.put (d.ch u) k (c.1, c2)) (d.C u)) val' = (zQa d val).setU u { (zQa d val).us u with ch := AL.put ((zQa d val).us u).ch k (toR val c.1, toR val' c2) } := by
 have far : ∀ {y : zQy}, y = c.1 ∨ y ∈ chH (AL.del (d.ch u) k) ++ d.ah u ++ zXa d u -> toR val' y = toR val y := fun {y} hy => same y (h.far hy)
 have oth : ∀ {y : zQy}, y ∈ zXa d u -> toR val' y = toR val y := fun {y} hy => far (.inr (List.mem_append_right _ hy))
 rw [zWq]
 have e1 : (AL.put (d.ch u) k (c.1, c2)).map (toC val') = AL.put ((d.ch u).map (toC val)) k (toR val c.1, toR val' c2) := yVc (by rw [far (.inl rfl)]) fun x hx => far (.inr (by simp only [List.mem_append]; exact .inl (.inl hx)))
 have e2 : (d.ah u).map (toR val') = (d.ah u).map (toR val) := List.map_congr_left fun x hx => far (.inr (by simp only [List.mem_append]; exact .inl (.inr hx)))
 have e3 : d.rh.map (toR val') = d.rh.map (toR val) := List.map_congr_left fun x hx => oth (by unfold zXa; exact List.mem_append_left _ hx)
 rw [e1, e2, e3]
 simp only [zQa, Dsk.setU, Dsk.mk.injEq, true_and, and_true]
 funext v
 by_cases e : v = u
 ·subst e; simp [zJ2]
 ·simp only [if_neg e, zJ2, Usr.mk.injEq, true_and]
  by_cases hv : v < 4
  ·have m : ∀ {x : zQy}, x ∈ uH d v -> toR val' x = toR val x := fun {x} hx => oth (oth_uH hv e hx)
   refine ⟨List.map_congr_left fun p hp => ?_, List.map_congr_left fun x hx => m (List.mem_append_right _ hx)⟩
   rw [toC, toC, m (List.mem_append_left _ (List.mem_flatMap.2 ⟨p, hp, by simp⟩)), m (List.mem_append_left _ (List.mem_flatMap.2 ⟨p, hp, by simp⟩))]
  ·obtain ⟨h1, h2⟩ := hl v (by omega)
   rw [h1, h2]; exact ⟨rfl, rfl⟩
theorem do_chg (h : zQh w d 1 val) {u : Nat} (hu : u < 4) {A : Do1} {f : Nat} {cap : Array Value} {k : Int} {c : zQy × zQy} {r : Nat}
  (hb : w.heap[r]? = some (.cells #[.bool c.1.g, .slice c.1.s.a c.1.s.len c.1.s.cap, .bool c.2.g, .slice c.2.s.a c.2.s.len c.2.s.cap] 133)) (hr : d.o r = none) (hc : zZE A f cap w (fun b => Own d b ∨ b = r))
  (r1 : zQj w 28 3 c.1.s ((hv val c.1).flatMap zXH)) (r2 : zQj w 28 3 c.2.s ((hv val c.2).flatMap zXH)) (ho : ∀ b, b ∈ zQb c.1.s ∨ b ∈ zQb c.2.s -> d.o b = some .V)
  (hfree : c.2 ∈ zXf d ∨ ∀ b ∈ zQb c.2.s, b ∉ vB (zXf d)) (nd : ApC d u k c) (hA : ∀ j v, A = .set j v -> j < (hv val c.2).length) :
  Calls prog f (([.pointer (some ((⟨r, 0, none⟩ : Addr).add 2))] : List Value) ++ cap.toList).toArray w fun e w' => e = .returned (.tuple #[]) /\ ∃ (c2 : zQy) (val' : Nat -> List Val), c2.s = c.2.s /\ zQh w' d 1 val' /\ Fr (fun b => Own d b ∨ b = r) w w' /\
   w'.heap[r]? = some (.cells #[.bool c.1.g, .slice c.1.s.a c.1.s.len c.1.s.cap, .bool c2.g, .slice c2.s.a c2.s.len c2.s.cap] 133) /\ zQj w' 28 3 c.1.s ((hv val' c.1).flatMap zXH) /\ zQj w' 28 3 c2.s ((hv val' c2).flatMap zXH) /\
   (∀ y : zQy, (∀ b ∈ zQb c.2.s, b ∉ zQb y.s) -> toR val' y = toR val y) /\ toR val' c2 = A.f (toR val c.2) := by
 cases A with
 | set j v =>
  obtain ⟨rfl, r7, s, rfl, h3, h4, n7, ns⟩ := hc
  have hj := hA j v rfl
  obtain ⟨a, ha⟩ := zXy r2 hj
  have hab : a.block ∈ zQb c.2.s := by simp [zQb, ha]
  have hblk : ∀ b ∈ zQb c.2.s, b = a.block := fun b hb => by simpa [zQb, ha] using hb
  show Calls prog 54 #[.pointer (some ((⟨r, 0, none⟩ : Addr).add 2)), .pointer (some ⟨r7, 0, none⟩), .pointer (some ⟨s, 0, none⟩)] w _
  have hcl : w.cell? (((⟨r, 0, none⟩ : Addr).add 2).add 1) = some (.slice c.2.s.a c.2.s.len c.2.s.cap) := by rw [zQe, zQe, zQo hb]; rfl
  refine Calls.mono (yKL hcl r2 hj h3 h4) ?_
  rintro e w1 ⟨rfl, hr1, hf1, hs1⟩
  have hV := ho _ (.inr hab)
  have hfar := nd.far (y := c.1) (.inl rfl)
  have hD : zQh w1 d 1 (zX6 val a.block ((hv val c.2).set j v)) := by
   rcases hfree with hm | hn
   ·exact h.setVal hm ha hf1 hr1
   ·have hf' : Fr (· = a.block) w w1 := hf1.mono fun i hi _ => hblk i hi
    exact ⟨hf'.blk h.st fun e => (by rw [← show d.S = a.block from e, h.bd.oS] at hV; cases hV), h.bd.free hV (hn _ hab) hf' _, h.sd⟩
  have e1 : hv (zX6 val a.block ((hv val c.2).set j v)) c.1 = hv val c.1 := zZJ fun e => hfar _ hab e
  have e2 : hv (zX6 val a.block ((hv val c.2).set j v)) c.2 = (hv val c.2).set j v := zZj ha rfl
  refine ⟨rfl, c.2, _, rfl, hD, hf1.mono fun b hb' _ => .inl (by rw [Own, ho b (.inr hb')]; simp), hf1.blk hb fun e => (by rw [hblk _ e] at hr; rw [hr] at hV; cases hV), ?_, ?_, fun y hy => zZ2 (hy _ hab), ?_⟩
  ·rw [e1]; exact r1.fr hf1 fun b hb' hb2 => hfar b hb2 hb'
  ·rw [e2]; exact hr1
  ·rw [toR, e2]; rfl
 | mark g =>
  obtain ⟨rfl, r5, rfl, h3, n5⟩ := hc
  show Calls prog 57 #[.pointer (some ((⟨r, 0, none⟩ : Addr).add 2)), .pointer (some ⟨r5, 0, none⟩)] w _
  refine yQ3 h3 ?_
  rw [zQe]
  refine zQv hb (by show 0 + 2 < 4; omega) fun w1 hw1 hb1 => ?_
  have hf1 : Fr (· = r) w w1 := by rw [hw1]; exact Fr.cell w _ _ _
  have no : ∀ {b : Nat}, d.o b ≠ none -> ¬ b = r := fun {b} hb e => hb (by rw [e]; exact hr)
  refine ⟨rfl, { c.2 with g := g }, val, rfl, h.fr hf1 fun b hb => no hb, hf1.mono fun b hb _ => .inr hb, hb1, r1.fr hf1 fun b hb => no (by rw [ho b (.inl hb)]; simp), r2.fr hf1 fun b hb => no (by rw [ho b (.inr hb)]; simp), fun _ _ => rfl, rfl⟩
theorem xX5 (h : zQh w d 1 val) {u : Nat} (hu : u < 4) {k : Int} {c : zQy × zQy} {c2 : zQy} (hs : c2.s = c.2.s) (r1 : zQj w 28 3 c.1.s ((hv val c.1).flatMap zXH)) (r2 : zQj w 28 3 c2.s ((hv val c2).flatMap zXH))
  (ho : ∀ b, b ∈ zQb c.1.s ∨ b ∈ zQb c.2.s -> d.o b = some .V) (nd : ApC d u k c) :
  ∃ w1, (Instr.mapUpdate 88 (.map (some (d.C u))) (.int .i64 k) (.agg #[.bool c.1.g, .slice c.1.s.a c.1.s.len c.1.s.cap, .bool c2.g, .slice c2.s.a c2.s.len c2.s.cap])).run prog w = .ok () w1 /\
   zQh w1 (d.gen u d.o d.rs d.rh (d.asv u) (d.ah u) (d.cs u) (AL.put (d.ch u) k (c.1, c2)) (d.C u)) 1 val /\ Fr (· = d.C u) w w1 /\ w1.heap.size = w.heap.size := by
 obtain ⟨w1, hrun, hm1, hf1, hs1⟩ := (h.mp hu).upd (P := prog) zV8 xXV k (c.1, c2)
 have oC := h.bd.oC h.sd u hu
 have ne : ∀ {b : Nat} {κ : zX4}, d.o b = some κ -> κ ≠ .C u -> ¬ b = d.C u := fun {b κ} hb hk e => by rw [e, oC] at hb; exact hk (Option.some.inj hb).symm
 refine ⟨w1, hrun, ⟨?_, ?_, h.sd⟩, hf1, hs1⟩
 ·rw [zWH]
  exact hf1.blk h.st (ne h.bd.oS (by simp))
 ·refine h.bd.gen hu hf1 (fun b κ hb _ _ _ hk => ⟨ne hb hk, hb⟩) h.bd.oS (h.bd.rw_.fr hf1 fun b hb => ne (h.bd.oR b hb) (by simp)) h.bd.oR ((h.bd.aw u hu).fr hf1 fun b hb => ne (h.bd.oA u hu b hb) (by simp)) (h.bd.oA u hu)
   (fun _ => ⟨hm1, oC⟩) (fun e => absurd (h.sd.symm.trans e) (by simp)) (fun x hx => ?_) (nd.gen hu hs) (fun b hb => Nat.lt_of_lt_of_le (h.bd.lt b hb) hf1.size)
  simp only [List.mem_append] at hx
  rcases hx with (hx | hx) | hx
  ·have := (zJz (d.ch u) k (c.1, c2)).mem_iff.1 hx
   rcases List.mem_cons.1 this with rfl | this
   ·exact .inr ⟨r1.fr hf1 fun b hb => ne (ho b (.inl hb)) (by simp), fun b hb => ho b (.inl hb)⟩
   ·rcases List.mem_cons.1 this with rfl | this
    ·exact .inr ⟨r2.fr hf1 fun b hb => ne (ho b (.inr (by rw [← hs]; exact hb))) (by simp), fun b hb => ho b (.inr (by rw [← hs]; exact hb))⟩
    ·exact .inl ⟨x, zZn hu (List.mem_append_left _ (yQN this)), rfl⟩
  ·exact .inl ⟨x, zX8 hu hx, rfl⟩
  ·exact .inl ⟨x, zQK hx, rfl⟩
end Go.Proofs.YtcihcbfcgjepfaaGreatDoor
/- Desks: alter. No condition but those stated. -/
namespace Go.Proofs.YtcihcbfcgjepfaaGreatDoor
open Go.Sh Go.RowKit Tryz
variable {w w' : World} {d d' : zQr} {val : Nat -> List Val} {mu : Int}
theorem zZE.up {A : Do1} {f : Nat} {cap : Array Value} {D D' : Nat -> Prop} (h : zZE A f cap w D) (hd : ∀ b, b < w.heap.size -> D' b -> D b) : zZE A f cap w D' := by
 cases A with
 | set i v =>
  obtain ⟨h1, r, s, h2, h3, h4, h5, h6⟩ := h
  exact ⟨h1, r, s, h2, h3, h4, fun e => h5 (hd _ (zQA h3) e), fun e => h6 (hd _ (zQA h4) e)⟩
 | mark g =>
  obtain ⟨h1, r, h2, h3, h5⟩ := h
  exact ⟨h1, r, h2, h3, fun e => h5 (hd _ (zQA h3) e)⟩
theorem zZE.pu {A : Do1} {f : Nat} {cap : Array Value} {D : Nat -> Prop} (h : zZE A f cap w D) (hp : Pu w w') : zZE A f cap w' D := h.fr (Fr.pu hp : Fr (fun _ => False) w w') fun _ _ e => e.elim
theorem zWT (h : zQh w d 1 val) {u : Nat} (hu : u < 4) {A : Do1} {f : Nat} {cap : Array Value} {c : zQy × zQy} {r : Nat}
  (hb : w.heap[r]? = some (.cells #[.bool c.1.g, .slice c.1.s.a c.1.s.len c.1.s.cap, .bool c.2.g, .slice c.2.s.a c.2.s.len c.2.s.cap] 133)) (hr : d.o r = none) (hc : zZE A f cap w (fun b => Own d b ∨ b = r))
  (r1 : zQj w 28 3 c.1.s ((hv val c.1).flatMap zXH)) (r2 : zQj w 28 3 c.2.s ((hv val c.2).flatMap zXH)) (ho : ∀ b, b ∈ zQb c.1.s ∨ b ∈ zQb c.2.s -> d.o b = some .V)
  (hfree : c.2 ∈ zXf d ∨ ∀ b ∈ zQb c.2.s, b ∉ vB (zXf d)) (nd : ApC d u (d.at_ u) c) (hA : ∀ j v, A = .set j v -> j < (hv val c.2).length) {R : Rt}
  (hR : ∀ w' d' val', zQh w' d' 1 val' -> Fr (fun b => Own d b ∨ b = r) w w' -> d'.o = d.o -> d'.S = d.S ->
   zQa d' val' = (zQa d val).setU u { (zQa d val).us u with ch := AL.put ((zQa d val).us u).ch (d.at_ u) (toR val c.1, A.f (toR val c.2)) } -> R (.returned (.int .i64 0)) w') :
  zXF prog f = true /\ Calls prog f (([.pointer (some ((⟨r, 0, none⟩ : Addr).add 2))] : List Value) ++ cap.toList).toArray w fun e w33 => e = .returned (.tuple #[]) /\ dwE w33 fun w34 =>
   ∃ m70 : Option Nat, w34.cell? ((uA d u).add 2) = some (.map m70) /\ ∃ n74 : Int, w34.cell? ((uA d u).add 1) = some (.int .i64 n74) /\
   ∃ b75_0 : Bool, w34.cell? ((⟨r, 0, none⟩ : Addr).add 0) = some (.bool b75_0) /\ ∃ l75_1 : SV, w34.cell? ((⟨r, 0, none⟩ : Addr).add 1) = some (.slice l75_1.a l75_1.len l75_1.cap) /\
   ∃ b75_2 : Bool, w34.cell? ((⟨r, 0, none⟩ : Addr).add 2) = some (.bool b75_2) /\ ∃ l75_3 : SV, w34.cell? ((⟨r, 0, none⟩ : Addr).add 3) = some (.slice l75_3.a l75_3.len l75_3.cap) /\
   doE prog (Instr.mapUpdate 88 (.map m70) (.int .i64 n74) (.agg #[.bool b75_0, .slice l75_1.a l75_1.len l75_1.cap, .bool b75_2, .slice l75_3.a l75_3.len l75_3.cap])) w34 fun w37 => R (.returned (.int .i64 0)) w37 := by
 refine ⟨hc.body, (do_chg h hu hb hr hc r1 r2 ho hfree nd hA).mono ?_⟩
 rintro e w33 ⟨rfl, c2, val', hs, h33, hf33, hb33, q1, q2, same, hc2⟩
 refine ⟨rfl, zQf fun w34 hp34 _ => ?_⟩
 have h34 := h33.pu hp34
 have hb34 := hp34.blk hb33
 obtain ⟨w37, hrun, h37, hf37, _⟩ := xX5 h34 hu (k := d.at_ u) (c := c) hs (q1.pu hp34) (q2.pu hp34) ho nd
 refine ⟨some (d.C u), h34.uCh hu, d.at_ u, h34.uAt hu, _, cl hb34 0, c.1.s, cl hb34 1, _, cl hb34 2, c2.s, cl hb34 3, w37, hrun, ?_⟩
 refine hR w37 _ val' h37 ((hf33.trans (Fr.pu hp34 : Fr (fun b => Own d b ∨ b = r) w33 w34) fun i hi _ => hi).trans hf37 fun i hi _ => .inl (by rw [Own, show i = d.C u from hi, h.bd.oC h.sd u hu]; simp)) rfl rfl ?_
 rw [yQn h.bd.low nd same, hc2]
theorem yKu (h : zQh w d 1 val) (hI : Inv (zQa d val)) {u : Nat} (hu : u < 4) (h0 : d.at_ u ≠ 0) {A : Do1} {f : Nat} {cap : Array Value} (hc : zZE A f cap w (Own d)) (hA : ∀ j v, A = .set j v -> j < d.flds.length) :
  Calls prog 53 #[d.ptr, .int .i64 (u : Int), .pointer (some (uA d u)), .func (.func f) #[] cap] w fun e w' => e = .returned (.int .i64 (lockC u (zQa d val))) /\ ∃ d' val', zQ4 w w' d d' 1 val' /\ zQa d' val' = if lockC u (zQa d val) = 0 then alterS u A.f (zQa d val) else zQa d val := by
 refine yJB _ _ _ _ w _ ⟨_, h.uAt hu, (lock_c h hu).mono ?_⟩
 rintro e w2 ⟨rfl, lk', h2, hf2, hs2, e2⟩
 have L2 : zQ4 w w2 d { d with lk := lk' } 1 val := ⟨h2, hf2.mono fun i hi _ => by rw [show i = d.L from hi, h.bd.oL]; simp, fun b hb => .inl hb, rfl⟩
 have eM : ((zQa d val).us u).mode = d.mode u := rfl
 have eA : ((zQa d val).us u).at_ = d.at_ u := rfl
 refine ⟨_, rfl, Br.of (fun c => ?_) (fun c => ?_)⟩
 ·have c : lockC u (zQa d val) ≠ 0 := zQC c
  rw [if_neg c] at e2
  exact ⟨rfl, _, val, L2, by rw [if_neg c]; exact e2⟩
 have c : lockC u (zQa d val) = 0 := zQw c
 rw [if_pos c] at e2
 have hc2 : zZE A f cap w2 (Own d) := hc.fr hf2 fun b _ hb => by rw [Own, show b = d.L from hb, h.bd.oL]; simp
 have hat := hI.at_ u hu
 rw [eA, zX0, show (zQa d val).recs.length = d.rh.length by simp [zQa]] at hat
 have hal := h.as_len hu
 have hrl := h.rs_len
 have hr3 := hI.rh
 have ha3 := hI.ah hu
 have fin : ∀ {w5 w6 : World} {d' : zQr} {val' : Nat -> List Val}, Pu w2 w5 -> zQh w6 d' 1 val' -> Fr (Own d) w5 w6 -> (∀ b, d'.o b ≠ none -> d.o b ≠ none ∨ w5.heap.size <= b) -> d'.S = d.S -> zQa d' val' = alterS u A.f (zQa d val) ->
   Ending.returned (.int .i64 0) = .returned (.int .i64 (lockC u (zQa d val))) /\ ∃ d' val', zQ4 w w6 d d' 1 val' /\ zQa d' val' = if lockC u (zQa d val) = 0 then alterS u A.f (zQa d val) else zQa d val := fun {w5 w6 d' val'} hp h6 hf ho hS ha =>
  ⟨by rw [c], d', val', L2.trans ⟨h6, (Fr.pu hp : Fr (Own d) w2 w5).trans hf fun i hi _ => hi, fun b hb => (ho b hb).imp id fun hz => Nat.le_trans hp.size hz, hS⟩, by rw [if_pos c]; exact ha⟩
 refine ⟨_, h2.uAt hu, Br.of (fun c1 => zQf fun w5 hp5 _ => ?_) (fun c1 => ⟨_, h2.uMode hu, Br.of (fun c2 => zQf fun w5 hp5 _ => ?_) (fun c2 => zQf fun w5 hp5 _ => ?_)⟩)⟩
 ·have c1 : d.at_ u < 0 := zQn c1
  have h5 := h2.pu hp5
  have hlt : (-d.at_ u - 1).toNat < (d.ah u).length := by omega
  obtain ⟨x, hx⟩ := zXg hlt
  obtain ⟨a, ea, _, _⟩ := (h5.bd.aw u hu).elem zQk hx (o := 0) (v := .bool x.g) rfl
  have ew : IntKind.i64.wrap ((IntKind.i64.wrap (0 - d.at_ u)) - 1) = -d.at_ u - 1 := by rw [zQc (n := 0 - d.at_ u) (by omega) (by omega), zQc (by omega) (by omega)]; omega
  refine ⟨d.asv u, h5.uAp hu, d.at_ u, h5.uAt hu, a, ea, ?_⟩
  rw [ew]
  refine ⟨by show 0 <= -d.at_ u - 1; omega, by show -d.at_ u - 1 < (((d.asv u).len : Nat) : Int); omega, hc2.body, (do_ap h5 hu (hc2.pu hp5) hx (fun j v e => by rw [(h.read hI (zX8 hu (List.mem_of_getElem? hx))).2]; exact hA j v e) ea).mono ?_⟩
  rintro e w6 ⟨rfl, d', val', h6, hf6, ho6, hS6, habs⟩
  refine ⟨rfl, fin hp5 h6 hf6 (fun b hb => .inl (by rw [ho6] at hb; exact hb)) hS6 ?_⟩
  rw [habs, yXA, e2]
  have e3 : lockS u (zQa d val) = zQa d val := by simp only [lockS, eM, eA]; rw [if_pos (.inr (.inr (.inl c1)))]
  rw [e3]
  simp only [alterS, eA]
  rw [if_pos c1]
 ·have c1 : ¬ d.at_ u < 0 := zQg c1
  have c2 : d.mode u = 0 := zQ6 c2
  have h5 := h2.pu hp5
  have hlt : (d.at_ u - 1).toNat < d.rh.length := by omega
  obtain ⟨x, hx⟩ := zXg hlt
  obtain ⟨a, ea, _, _⟩ := h5.bd.rw_.elem zQk hx (o := 0) (v := .bool x.g) rfl
  refine ⟨d.rs, h5.recs, d.at_ u, h5.uAt hu, a, ea, ?_⟩
  rw [zQc (by omega) (by omega)]
  refine ⟨by show 0 <= d.at_ u - 1; omega, by show d.at_ u - 1 < ((d.rs.len : Nat) : Int); omega, hc2.body, (do_rec h5 (hc2.pu hp5) hx (fun j v e => by rw [(h.read hI (zQK (List.mem_of_getElem? hx))).2]; exact hA j v e) ea).mono ?_⟩
  rintro e w6 ⟨rfl, d', val', h6, hf6, ho6, hS6, habs⟩
  refine ⟨rfl, fin hp5 h6 hf6 (fun b hb => .inl (by rw [ho6] at hb; exact hb)) hS6 ?_⟩
  rw [habs, yXA, e2]
  have e3 : lockS u (zQa d val) = zQa d val := by simp only [lockS, eM, eA]; rw [if_pos (.inr (.inr (.inr c2)))]
  rw [e3]
  simp only [alterS, eM, eA]
  rw [if_neg c1, if_pos c2]
 ·have c1 : ¬ d.at_ u < 0 := zQg c1
  have c2 : d.mode u ≠ 0 := zQm c2
  have h5 := h2.pu hp5
  have hlt : (d.at_ u - 1).toNat < d.rh.length := by omega
  obtain ⟨x, hx⟩ := zXg hlt
  have hxm : x ∈ zXf d := zQK (List.mem_of_getElem? hx)
  have hlen := (h.read hI hxm).2
  have hl16 : d.flds.length <= 16 := hI.f16
  have hl1 : d.flds ≠ [] := (zQE hI.vf).1
  have hl1 : 0 < d.flds.length := List.length_pos_iff.2 hl1
  have ew : IntKind.i64.wrap (d.at_ u - 1) = d.at_ u - 1 := zQc (by omega) (by omega)
  have recE : recK (zQa d val) (d.at_ u) = toR val x := by
   unfold recK
   show (d.rh.map (toR val)).getD _ _ = _
   rw [List.getD_eq_getElem?_getD, List.getElem?_map, hx]; rfl
  refine ⟨fun y => Pu w5 y, Pu.refl _, some (d.C u), fun y hy => (h5.pu hy).uCh hu, d.at_ u, fun y hy => (h5.pu hy).uAt hu, _, (chG (d.ch u) (d.at_ u)).1.s, _, (chG (d.ch u) (d.at_ u)).2.s, _, fun y hy => yQB ((h5.pu hy).mp hu) _, alB fun w21 hp21 hb21 => ⟨hp21, zQl hb21 yJC.symm rfl rfl fun w22 hb22 hf22 hs22 => ?_⟩⟩
  have zr : w5.heap.size < w21.heap.size := zQA hb21
  have hp22 : Pu w5 w22 := hp21.andNew hf22 fun i hi => by rw [show i = w5.heap.size from hi]; exact Nat.le_refl _
  have h22 := h5.pu hp22
  have z5 := hp5.size
  have nR : d.o w5.heap.size = none := h5.bd.out (Nat.le_refl _)
  refine Br.of (fun cn => ?_) (fun ce => ?_)
  ·have cn : AL.get (d.ch u) (d.at_ u) = none := by simpa using cn
   refine zQf fun w23 hp23 _ => ?_
   have h23 := h22.pu hp23
   have hb23 := hp23.blk hb22
   obtain ⟨a, ea, _, g0⟩ := h23.bd.rw_.elem zQk hx (o := 0) (v := .bool x.g) rfl
   have rd : ∀ y, Pu w23 y -> y.cell? ((a.add ((d.at_ u - 1).toNat * 2)).add 0) = some (.bool x.g) /\ y.cell? ((a.add ((d.at_ u - 1).toNat * 2)).add 1) = some (.slice x.s.a x.s.len x.s.cap) := fun y hy => by
    obtain ⟨a', ea', _, g1⟩ := h23.bd.rw_.elem zQk hx (o := 1) (v := .slice x.s.a x.s.len x.s.cap) rfl
    rw [ea] at ea'; cases ea'
    exact ⟨hy.cell g0, hy.cell g1⟩
   refine ⟨fun y => Pu w23 y, Pu.refl _, d.rs, fun y hy => (h23.pu hy).recs, d.at_ u, fun y hy => (h23.pu hy).uAt hu, a, ea, ?_⟩
   rw [ew]
   refine ⟨by show 0 <= d.at_ u - 1; omega, by show d.at_ u - 1 < ((d.rs.len : Nat) : Int); omega, x.g, fun y hy => (rd y hy).1, x.s, fun y hy => (rd y hy).2, d.rs, fun y hy => (h23.pu hy).recs, d.at_ u, fun y hy => (h23.pu hy).uAt hu, a, ea, ?_⟩
   rw [ew]
   refine ⟨by show 0 <= d.at_ u - 1; omega, by show d.at_ u - 1 < ((d.rs.len : Nat) : Int); omega, x.g, fun y hy => (rd y hy).1, x.s, fun y hy => (rd y hy).2, (zV9 (h23.vals hxm (by omega)) (by omega)).mono ?_⟩
   rintro e w30 ⟨s1, rfl, n1, hp30⟩
   have h30 := h23.pu hp30
   refine ⟨_, s1, rfl, hp30, (zV9 (h30.vals hxm (by omega)) (by omega)).mono ?_⟩
   rintro e w31 ⟨s2, rfl, n2, hp31⟩
   have h31 := h30.pu hp31
   have hb31 := hp31.blk (hp30.blk hb23)
   refine ⟨_, s2, rfl, zQl hb31 yJC.symm rfl rfl fun w32 hb32 hf32 hs32 => ?_⟩
   obtain ⟨a1, ea1⟩ := zXy (i := 0) n1.1 (by omega)
   obtain ⟨a2, ea2⟩ := zXy (i := 0) n2.1 (by omega)
   have bk1 : zQb s1 = [a1.block] := by simp [zQb, ea1]
   have bk2 : zQb s2 = [a2.block] := by simp [zQb, ea2]
   have m1 : w23.heap.size <= a1.block := n1.2 _ (by rw [bk1]; simp)
   have m1' : a1.block < w30.heap.size := n1.1.lt _ (by rw [bk1]; simp)
   have m2 : w30.heap.size <= a2.block := n2.2 _ (by rw [bk2]; simp)
   have m2' : a2.block < w31.heap.size := n2.1.lt _ (by rw [bk2]; simp)
   have z23 := hp23.size
   have z30 := hp30.size
   have z31 := hp31.size
   have o1 : ({ d with lk := lk' } : zQr).o a1.block = none := h23.bd.out m1
   have bd1 := h31.bd.ad o1 (by omega) (hv val x)
   have o2 : (({ d with lk := lk' } : zQr).ad a1.block).o a2.block = none := by
    show (if a2.block = a1.block then _ else _) = _
    rw [if_neg (by omega)]; exact h23.bd.out (by omega)
   have bd2 := bd1.ad o2 (by omega) (hv val x)
   have oR : ((({ d with lk := lk' } : zQr).ad a1.block).ad a2.block).o w5.heap.size = none := by
    show (if _ = a2.block then _ else if _ = a1.block then _ else _) = _
    rw [if_neg (by omega), if_neg (by omega)]; exact nR
   have h31' : zQh w31 ((({ d with lk := lk' } : zQr).ad a1.block).ad a2.block) 1 (zX6 (zX6 val a1.block (hv val x)) a2.block (hv val x)) := ⟨h31.st, bd2, h31.sd⟩
   have h32 := h31'.fr hf32 fun b hb e => hb (by rw [show b = w5.heap.size from e]; exact oR)
   have v1 : hv (zX6 (zX6 val a1.block (hv val x)) a2.block (hv val x)) ⟨x.g, s1⟩ = hv val x := by
    rw [zZJ (by show a2.block ∉ zQb s1; rw [bk1]; simp; omega)]
    exact zZj ea1 rfl
   have v2 : hv (zX6 (zX6 val a1.block (hv val x)) a2.block (hv val x)) ⟨x.g, s2⟩ = hv val x := zZj ea2 rfl
   have ha4 : zQa ((({ d with lk := lk' } : zQr).ad a1.block).ad a2.block) (zX6 (zX6 val a1.block (hv val x)) a2.block (hv val x)) = lockS u (zQa d val) := by
    rw [zV2 bd1 o2, zV2 h31.bd o1, yXA, e2]
   have hpw : Pu w2 w32 := ((((hp5.trans hp22).trans hp23).trans hp30).trans hp31).andNew hf32 fun i hi => by rw [show i = w5.heap.size from hi]; exact z5
   have hf31 : Fr (· = w5.heap.size) w31 w32 := hf32
   have nlt : ∀ b ∈ vB (chH (d.ch u) ++ d.ah u ++ zXa d u), b < w2.heap.size := fun b hb => by
    have : b ∈ vB (zXf d) := (zXA (zJg d hu)).mem_iff.2 hb
    exact h2.bd.lt b (by rw [show ({ d with lk := lk' } : zQr).o b = d.o b from rfl, h.bd.oV b this]; simp)
   have z22 := hp22.size
   refine zWT (A := A) (R := fun e w' => e = .returned (.int .i64 (lockC u (zQa d val))) /\ ∃ d' val', zQ4 w w' d d' 1 val' /\ zQa d' val' = if lockC u (zQa d val) = 0 then alterS u A.f (zQa d val) else zQa d val) h32 hu (c := (⟨x.g, s1⟩, ⟨x.g, s2⟩)) hb32 oR ((hc2.up fun b hb hD => ?_).pu hpw) ?_ ?_ (fun b hb => ?_) (.inr fun b hb hbx => ?_) ?_ (fun j v e => ?_) fun w' d' val' hD hf ho hS habs => ?_
   ·rcases hD with hD | hD
    ·have hD : (if b = a2.block then some zX4.V else if b = a1.block then some .V else d.o b) ≠ none := hD
     rwa [if_neg (by omega), if_neg (by omega)] at hD
    ·omega
   ·rw [v1]; exact (n1.1.pu hp31).fr hf31 fun b hb e => by rw [bk1] at hb; simp at hb; have : b = w5.heap.size := e; omega
   ·rw [v2]; exact n2.1.fr hf31 fun b hb e => by rw [bk2] at hb; simp at hb; have : b = w5.heap.size := e; omega
   ·show (if b = a2.block then some zX4.V else if b = a1.block then some .V else d.o b) = _
    rcases hb with hb | hb
    ·have hb : b ∈ zQb s1 := hb
     rw [bk1] at hb; simp at hb
     rw [if_neg (by omega), if_pos hb]
    ·have hb : b ∈ zQb s2 := hb
     rw [bk2] at hb; simp at hb
     rw [if_pos hb]
   ·have hb : b ∈ zQb s2 := hb
    rw [bk2] at hb; simp at hb
    have := nlt b ((zXA (zJg d hu)).mem_iff.1 hbx)
    omega
   ·unfold ApC
    rw [AL.del_none (by exact cn), zXd, zXd]
    show (zQb s1 ++ (zQb s2 ++ vB (chH (d.ch u) ++ d.ah u ++ zXa d u))).Nodup
    rw [bk1, bk2]
    simp only [List.singleton_append, List.nodup_cons, List.mem_cons, not_or]
    refine ⟨⟨by omega, fun hb => ?_⟩, fun hb => ?_, (yZo hu).1 h.bd.nd⟩
    ·have := nlt _ hb; omega
    ·have := nlt _ hb; omega
   ·rw [v2, hlen]; exact hA j v e
   ·rw [ha4] at habs
    refine fin hp5 hD (((Fr.pu ((((hp22.trans hp23).trans hp30).trans hp31).andNew hf32 fun i hi => by rw [show i = w5.heap.size from hi]; exact Nat.le_refl _) : Fr (Own d) w5 w32).trans hf fun i hi hlt => ?_)) (fun b hb => ?_) hS ?_
    ·rcases hi with hi | hi
     ·have hi : (if i = a2.block then some zX4.V else if i = a1.block then some .V else d.o i) ≠ none := hi
      rwa [if_neg (by omega), if_neg (by omega)] at hi
     ·omega
    ·rw [ho] at hb
     have hb : (if b = a2.block then some zX4.V else if b = a1.block then some .V else d.o b) ≠ none := hb
     by_cases q2 : b = a2.block
     ·right; omega
     ·by_cases q1 : b = a1.block
      ·right; omega
      ·rw [if_neg q2, if_neg q1] at hb; exact .inl hb
    ·rw [habs]
     simp only [alterS, eM, eA]
     rw [if_neg c1, if_neg c2]
     have e5 : ((lockS u (zQa d val)).us u) = (zQa d val).us u := by unfold lockS; simp only; split <;> rfl
     have e6 : AL.get ((zQa d val).us u).ch (d.at_ u) = none := by
      show AL.get ((d.ch u).map (toC val)) _ = _
      rw [zZk, cn]; rfl
     have e7 : toR (zX6 (zX6 val a1.block (hv val x)) a2.block (hv val x)) ⟨x.g, s1⟩ = toR val x := by rw [toR, v1]; rfl
     have e8 : toR (zX6 (zX6 val a1.block (hv val x)) a2.block (hv val x)) ⟨x.g, s2⟩ = toR val x := by rw [toR, v2]; rfl
     rw [e5, e6, e7, e8, recE]
     rfl
  ·have ce : (AL.get (d.ch u) (d.at_ u)).isSome = true := by simpa using ce
   obtain ⟨c0, hc0⟩ := Option.isSome_iff_exists.1 ce
   have eG : chG (d.ch u) (d.at_ u) = c0 := by rw [chG, hc0]; rfl
   rw [eG] at hb22
   have mc := zJc hu (AL.get_mem hc0)
   have mc1 : c0.1 ∈ zXf d := mc.1
   have mc2 : c0.2 ∈ zXf d := mc.2
   refine zWT (A := A) (R := fun e w' => e = .returned (.int .i64 (lockC u (zQa d val))) /\ ∃ d' val', zQ4 w w' d d' 1 val' /\ zQa d' val' = if lockC u (zQa d val) = 0 then alterS u A.f (zQa d val) else zQa d val) h22 hu (c := c0) hb22 nR ((hc2.up fun b hb hD => ?_).pu (hp5.trans hp22)) (h22.bd.vr _ mc1) (h22.bd.vr _ mc2) (fun b hb => ?_) (.inl mc2) ?_ (fun j v e => ?_) fun w' d' val' hD hf ho hS habs => ?_
   ·rcases hD with hD | hD
    ·exact hD
    ·omega
   ·rcases hb with hb | hb
    ·exact h.bd.oV b (zXk mc1 hb)
    ·exact h.bd.oV b (zXk mc2 hb)
   ·show (vB (c0.1 :: c0.2 :: (chH (AL.del (d.ch u) (d.at_ u)) ++ d.ah u ++ zXa d u))).Nodup
    have q1 := (yZo hu).1 h.bd.nd
    have q2 := zJz (d.ch u) (d.at_ u) c0
    rw [zWa hc0] at q2
    have q3 : (uH d u ++ zXa d u).Perm (c0.1 :: c0.2 :: (chH (AL.del (d.ch u) (d.at_ u)) ++ d.ah u ++ zXa d u)) := by
     have := (q2.append_right (d.ah u)).append_right (zXa d u)
     simpa [uH] using this
    exact (zXA q3).nodup_iff.1 q1
   ·rw [(h.read hI mc2).2]; exact hA j v e
   ·refine fin hp5 hD ((Fr.pu hp22 : Fr (Own d) w5 w22).trans hf fun i hi hlt => ?_) (fun b hb => ?_) hS ?_
    ·rcases hi with hi | hi
     ·exact hi
     ·omega
    ·rw [ho] at hb; exact .inl hb
    ·rw [habs, yXA, e2]
     simp only [alterS, eM, eA]
     rw [if_neg c1, if_neg c2]
     have e5 : ((lockS u (zQa d val)).us u) = (zQa d val).us u := by unfold lockS; simp only; split <;> rfl
     have e6 : AL.get ((zQa d val).us u).ch (d.at_ u) = some (toR val c0.1, toR val c0.2) := by
      show AL.get ((d.ch u).map (toC val)) _ = _
      rw [zZk, hc0]; rfl
     rw [e5, e6]
     rfl
end Go.Proofs.YtcihcbfcgjepfaaGreatDoor
/- Desks: Set, Mark. No condition but those stated. -/
namespace Go.Proofs.YtcihcbfcgjepfaaGreatDoor
open Go.Sh Go.RowKit Tryz
variable {w w' : World} {d d' : zQr} {val : Nat -> List Val} {mu : Int}
theorem zYW.dl {w2 : World} (h : zYW w w2 d val) : zQ4 w w2 d d 1 val := ⟨h.at_, h.fr, fun _ h => .inl h, rfl⟩
theorem set_c (h : zQh w d 0 val) (hI : Inv (zQa d val)) (u : Int) (field : ByteArray) (v : Val) :
  Calls prog 16 #[d.ptr, .int .i64 u, .string field, zZc v] w fun e w' => e = .returned (.int .i64 (setC u field v (zQa d val))) /\ ∃ d' val', zQ4 w w' d d' 0 val' /\ zQa d' val' = setS u field v (zQa d val) := by
 refine yJY _ u field v.kind v.n v.s w _ (alB fun w1 hp1 hb1 => (zQM h hp1 u).mono ?_)
 rintro e w2 ⟨rfl, h2, hf2, hs2⟩
 have z1 := hp1.size
 have lr : w.heap.size < w1.heap.size := zQA hb1
 have ho : d.o w.heap.size = none := h.bd.out (Nat.le_refl _)
 have nS : ¬ w.heap.size = d.S := fun e => by rw [e, h.bd.oS] at ho; cases ho
 have hb2 := hf2.blk hb1 nS
 have bad : ∀ {w3 : World} (n : Int), zYW w w3 d val -> setC u field v (zQa d val) = n -> n ≠ 0 -> zQd prog [zXw d] w3 fun w' => Ending.returned (.int .i64 n) = .returned (.int .i64 (setC u field v (zQa d val))) /\ ∃ d' val', zQ4 w w' d d' 0 val' /\ zQa d' val' = setS u field v (zQa d val) := fun {w3} n h3 hn h0 =>
  h3.left fun w' hL _ _ => ⟨by rw [hn], d, val, hL, by rw [setS, hn, if_neg h0]⟩
 refine ⟨_, _, _, rfl, Br.of (fun c => ?_) (fun c => ?_)⟩
 ·have hu := zJW c
  have e1 : uC u = 1 := by rw [uC, if_neg hu]
  rw [e1]
  exact bad 1 h2 (by rw [setC, if_pos hu]) (by decide)
 have hu := zJM c
 obtain ⟨n, rfl, hn⟩ := zQS hu
 rw [zKL hn]
 have eA : ((zQa d val).us n).at_ = d.at_ n := rfl
 refine ⟨_, h2.at_.uAt hn, Br.of (fun c1 => ?_) (fun c1 => ?_)⟩
 ·have c1 : d.at_ n = 0 := zQ6 c1
  exact bad 9 h2 (by rw [setC, if_neg (by simp [hu]), zQL, eA, if_pos c1]) (by decide)
 have c1 : d.at_ n ≠ 0 := zQm c1
 refine ⟨d.fs, h2.at_.flds, (yJQ (h2.at_.fld hI.vf) field).mono ?_⟩
 rintro e w7 ⟨rfl, hp7⟩
 refine ⟨_, _, rfl, alB fun w8 hp8 hb8 => ?_⟩
 refine zQv hb8 (by decide) fun w9 hw9 hb9 => ?_
 have z7 := hp7.size
 have z8 := hp8.size
 have z2 : w1.heap.size = w2.heap.size := hs2.symm
 have hf9 : Fr (· = w7.heap.size) w8 w9 := by rw [hw9]; exact Fr.cell w8 _ _ _
 have hp29 : Pu w2 w9 := (hp7.trans hp8).andNew hf9 fun i hi => by rw [show i = w7.heap.size from hi]; exact z7
 have h9 := h2.pu hp29
 have eC : setC (n : Int) field v (zQa d val) = match zKH d.flds field with | none => 4 | some i => if (zZ9 (d.flds.getD i default) d.page v).2 ≠ 0 then (zZ9 (d.flds.getD i default) d.page v).2 else lockC n (zQa d val) := by
  rw [setC, if_neg (by simp [hu]), zQL, eA, if_neg c1]; rfl
 refine Br.of (fun c2 => ?_) (fun c2 => ?_)
 ·have c2 : zKH d.flds field = none := by simpa using c2
  rw [c2] at eC
  exact bad 4 h9 eC (by decide)
 have c2 : (zKH d.flds field).isSome = true := by simpa using c2
 obtain ⟨i, hi⟩ := Option.isSome_iff_exists.1 c2
 have hil := zWC hi
 obtain ⟨fd, hfd⟩ := zXg hil
 have eD : d.flds.getD i default = fd := by rw [List.getD_eq_getElem?_getD, hfd]; rfl
 have eK : yQD d.flds field = (i : Int) := by rw [yQD, hi]; rfl
 rw [hi] at eC
 simp only [eD] at eC
 refine zQf fun w11 hp11 _ => ?_
 have h11 := h9.pu hp11
 have hb11 := (hp29.trans hp11).blk hb2
 have hc11 := hp11.blk hb9
 obtain ⟨a, ea, _, _, _, _, f0, f1, f2, f3⟩ := zZp (h11.at_.fld hI.vf) hfd
 have hfl := (h11.at_.fld hI.vf).len
 refine ⟨d.fs, h11.at_.flds, (i : Int), ?_, a, ea, by omega, by omega, fd.name, f0, fd.kind, f1, fd.width, f2, fd.null, f3, d.page, h11.at_.page, v.kind, cl hb11 0, v.n, cl hb11 1, v.s, cl hb11 2, (fit_c fd d.page v ?_ w11).mono ?_⟩
 ·rw [cl0 hc11, eK]; rfl
 ·have := zKw (hI.fB (f := fd) (List.mem_of_getElem? hfd)); omega
 rintro e w15 ⟨rfl, hp15⟩
 refine ⟨_, _, _, _, rfl, zQl (hp15.blk hb11) zKR.symm rfl rfl fun w16 hb16 hf16 hs16 => ?_⟩
 have h15 := h11.pu hp15
 have h16 : zYW w w16 d val := ⟨h15.at_.fr hf16 fun b hb e => hb (by rw [show b = w.heap.size from e]; exact ho), h15.fr.trans hf16 fun i hi hlt => by have hi : i = w.heap.size := hi; omega⟩
 refine Br.of (fun c3 => ?_) (fun c3 => ?_)
 ·have c3 := zQC c3
  exact bad _ h16 (by rw [eC, if_pos c3]) c3
 ·have c3 := zQw c3
  rw [if_neg (by simp [c3])] at eC
  have ho7 : d.o w7.heap.size = none := h.bd.out (by omega)
  have hc16 : w16.heap[w7.heap.size]? = some (.cells #[.int .i64 (i : Int)] 3) := by
   have := hf16.blk (hp15.blk hc11) (by show ¬ w7.heap.size = w.heap.size; omega)
   rw [this, eK]; rfl
  have hcap : zZE (.set i (zZ9 fd d.page v).1) 54 #[.pointer (some ⟨w.heap.size, 0, none⟩), .pointer (some ⟨w7.heap.size, 0, none⟩)] w16 (Own d) := ⟨rfl, _, _, rfl, hb16, hc16, fun e => e ho, fun e => e ho7⟩
  refine (yKu h16.at_ hI hn c1 hcap fun j v' e => by cases e; exact hil).mono ?_
  rintro e w18 ⟨rfl, d', val', hL, habs⟩
  refine ⟨_, rfl, ?_⟩
  have LL := h16.dl.trans hL
  rw [← show d'.ptr = d.ptr by unfold zQr.ptr; rw [hL.ptr]]
  refine zQW LL fun w' hL' _ _ => ⟨by rw [eC], d', val', hL', ?_⟩
  rw [habs, setS, eC]
  have e0 : (zQa d val).flds = d.flds := rfl
  have e1 : (zQa d val).page = d.page := rfl
  rw [e0, e1, hi]
  simp only [eD, zQL]
  rfl
theorem mark_c (h : zQh w d 0 val) (hI : Inv (zQa d val)) (u : Int) (g : Bool) :
  Calls prog 20 #[d.ptr, .int .i64 u, .bool g] w fun e w' => e = .returned (.int .i64 (markC u (zQa d val))) /\ ∃ d' val', zQ4 w w' d d' 0 val' /\ zQa d' val' = markS u g (zQa d val) := by
 refine yJ2 _ u g w _ (alB fun w1 hp1 hb1 => (zQM h hp1 u).mono ?_)
 rintro e w2 ⟨rfl, h2, hf2, hs2⟩
 have ho : d.o w.heap.size = none := h.bd.out (Nat.le_refl _)
 have nS : ¬ w.heap.size = d.S := fun e => by rw [e, h.bd.oS] at ho; cases ho
 have hb2 := hf2.blk hb1 nS
 have bad : ∀ (n : Int), markC u (zQa d val) = n -> n ≠ 0 -> zQd prog [zXw d] w2 fun w' => Ending.returned (.int .i64 n) = .returned (.int .i64 (markC u (zQa d val))) /\ ∃ d' val', zQ4 w w' d d' 0 val' /\ zQa d' val' = markS u g (zQa d val) := fun n hn h0 =>
  h2.left fun w' hL _ _ => ⟨by rw [hn], d, val, hL, by rw [markS, hn, if_neg h0]⟩
 refine ⟨_, _, _, rfl, Br.of (fun c => ?_) (fun c => ?_)⟩
 ·have hu := zJW c
  have e1 : uC u = 1 := by rw [uC, if_neg hu]
  rw [e1]
  exact bad 1 (by rw [markC, if_pos hu]) (by decide)
 have hu := zJM c
 obtain ⟨n, rfl, hn⟩ := zQS hu
 rw [zKL hn]
 have eA : ((zQa d val).us n).at_ = d.at_ n := rfl
 refine ⟨_, h2.at_.uAt hn, Br.of (fun c1 => ?_) (fun c1 => ?_)⟩
 ·have c1 : d.at_ n = 0 := zQ6 c1
  exact bad 9 (by rw [markC, if_neg (by simp [hu]), zQL, eA, if_pos c1]) (by decide)
 have c1 : d.at_ n ≠ 0 := zQm c1
 have eC : markC (n : Int) (zQa d val) = lockC n (zQa d val) := by rw [markC, if_neg (by simp [hu]), zQL, eA, if_neg c1]
 have hcap : zZE (.mark g) 57 #[.pointer (some ⟨w.heap.size, 0, none⟩)] w2 (Own d) := ⟨rfl, _, rfl, hb2, fun e => e ho⟩
 refine (yKu h2.at_ hI hn c1 hcap fun j v' e => by cases e).mono ?_
 rintro e w18 ⟨rfl, d', val', hL, habs⟩
 refine ⟨_, rfl, ?_⟩
 have LL := h2.dl.trans hL
 rw [← show d'.ptr = d.ptr by unfold zQr.ptr; rw [hL.ptr]]
 refine zQW LL fun w' hL' _ _ => ⟨by rw [eC], d', val', hL', ?_⟩
 rw [habs, markS, eC, zQL]
 rfl
end Go.Proofs.YtcihcbfcgjepfaaGreatDoor
/- Desks: clean, Revert, Fall. No condition but those stated. -/
namespace Go.Proofs.YtcihcbfcgjepfaaGreatDoor
open Go.Sh Go.RowKit Tryz
variable {w w' : World} {d d' : zQr} {val : Nat -> List Val} {mu : Int}
theorem xXF {u : Nat} (hu : u < 4) (r : Nat) : (zQZ mu d).setIfInBounds (5 + u * 4 + 2) (.map (some r)) = zQZ mu { d with C := fun v => if v = u then r else d.C v } := by
 rcases (by omega : u = 0 ∨ u = 1 ∨ u = 2 ∨ u = 3) with rfl | rfl | rfl | rfl <;> rfl
theorem yX1 {u : Nat} (hu : u < 4) (s : SV) : (zQZ mu d).setIfInBounds (5 + u * 4 + 3) (.slice s.a s.len s.cap) = zQZ mu { d with asv := fun v => if v = u then s else d.asv v } := by
 rcases (by omega : u = 0 ∨ u = 1 ∨ u = 2 ∨ u = 3) with rfl | rfl | rfl | rfl <;> rfl
def zQr.clr (d : zQr) (u r : Nat) : zQr := { d with C := fun v => if v = u then r else d.C v, asv := fun v => if v = u then ⟨none, 0, 0⟩ else d.asv v }
theorem zY5 (hst : w.heap[d.S]? = some (.cells (zQZ mu d) 93)) {l : List (Int × Int)} (hl : zQ8 w zXu zXu d.L l) (hLS : d.L ≠ d.S) {u : Nat} (hu : u < 4) :
  Calls prog 116 #[d.ptr, .int .i64 (u : Int), .pointer (some (uA d u))] w fun e w' => e = .returned (.tuple #[]) /\ w'.heap[d.S]? = some (.cells (zQZ mu (d.clr u w.heap.size)) 93) /\ zQ8 w' zXu chV w.heap.size [] /\
   Fr (fun b => b = d.S ∨ b = d.L) w w' /\ ∃ l', zQ8 w' zXu zXu d.L l' /\ ∀ k, AL.get l' k = if AL.get l k = some (u : Int) then none else AL.get l k := by
 refine yXZ _ _ _ w _ (zX7 fun w1 hw1 => ?_)
 have hp1 : Pu w w1 := by rw [hw1]; exact Pu.alloc w _
 have hm1 : zQ8 w1 zXu chV w.heap.size [] := by rw [hw1]; exact zQ8.new w _ _
 have zS : d.S < w.heap.size := zQA hst
 have zL := hl.lt
 have hst1 := hp1.blk hst
 rw [zQ9, zQe]
 refine zQv hst1 (by show 5 + u * 4 + 2 < 22; omega) fun w2 hw2 hb2 => ?_
 have hf2 : Fr (· = d.S) w1 w2 := by rw [hw2]; exact Fr.cell w1 _ _ _
 rw [xXF hu] at hb2
 rw [zQ9, zQe]
 refine zQv hb2 (by show 5 + u * 4 + 3 < 22; omega) fun w3 hw3 hb3 => ?_
 have hf3 : Fr (· = d.S) w2 w3 := by rw [hw3]; exact Fr.cell w2 _ _ _
 have hb3 : w3.heap[d.S]? = some (.cells (zQZ mu (d.clr u w.heap.size)) 93) := by
  rw [hb3]
  exact congrArg (fun c => some (Obj.cells c 93)) (yX1 (d := { d with C := fun v => if v = u then w.heap.size else d.C v }) hu ⟨none, 0, 0⟩)
 have hf13 : Fr (· = d.S) w1 w3 := hf2.trans hf3 fun i hi _ => hi
 have hl3 : zQ8 w3 zXu zXu d.L l := (hl.pu hp1).fr hf13 hLS
 have hm3 : zQ8 w3 zXu chV w.heap.size [] := hm1.fr hf13 (by omega)
 have hF3 : Fr (fun b => b = d.S ∨ b = d.L) w w3 := (Fr.pu hp1 : Fr (fun b => b = d.S ∨ b = d.L) w w1).trans hf13 fun i hi _ => .inl hi
 obtain ⟨w4, hrun, hi4, hp4, hs4⟩ := hl3.range (P := prog) xZd
 refine ⟨some d.L, by rw [zQe, zQo hb3]; rfl, _, w4, hrun, ?_⟩
 have hb4 := hp4.blk hb3
 have z3 := hF3.size
 have zS3 : d.S < w3.heap.size := zQA hb3
 have z13 := hf13.size
 have z1 : w.heap.size < w1.heap.size := by rw [hw1]; simp
 refine zVP l.length (fun m _ w' => ∃ todo cur : List (Int × Int), todo.length = m /\ zQQ w' zXu zXu w3.heap.size d.L cur todo /\ (∀ k v, AL.get todo k = some v -> AL.get l k = some v) /\
  (∀ k, AL.get cur k = if (AL.get todo k).isSome then AL.get l k else if AL.get l k = some (u : Int) then none else AL.get l k) /\ Fr (fun b => b = d.L ∨ b = w3.heap.size) w3 w' /\ w'.heap[d.S]? = some (.cells (zQZ mu (d.clr u w.heap.size)) 93) /\ zQ8 w' zXu chV w.heap.size [])
  ⟨l, l, rfl, hi4, fun _ _ h => h, fun k => by cases e : AL.get l k <;> simp [e], Fr.pu hp4, hb4, hm3.pu hp4⟩ ?_
 rintro m J s w5 ⟨todo, cur, hm, hi, hT, hC, hf5, hb5, hm5⟩ hJ
 have zl5 : d.L < w3.heap.size := hl3.lt
 rcases hi.next (P := prog) 0 with ⟨h0, hr⟩ | ⟨p, hp, w6, hr, hf6, hs6, hi6, hen⟩
 ·left
  refine ⟨w5, hr, rfl, hb5, hm5, hF3.trans hf5 fun i hi' hlt => ?_, cur, hi.map, fun k => ?_⟩
  ·rcases hi' with hi' | hi'
   ·exact .inr hi'
   ·omega
  ·rw [hC, h0]; rfl
 ·right
  refine ⟨_, _, w6, hr, _, _, w6, hen, ?_⟩
  show Br (p.2 == (u : Int)) _ _
  have hg : AL.get todo p.1 = some p.2 := AL.get_of_mem hi.nodup hp
  have hlen := AL.length_del hp hi.nodup
  have hT6 : ∀ k v, AL.get (AL.del todo p.1) k = some v -> AL.get l k = some v := fun k v hk => by
   rw [AL.get_del hi.nodup] at hk
   by_cases e : p.1 = k
   ·rw [if_pos e] at hk; cases hk
   ·rw [if_neg e] at hk; exact hT k v hk
  have hb6 := hf6.blk hb5 (by omega)
  have hm6 := hm5.fr hf6 (by omega)
  have hf36 : Fr (fun b => b = d.L ∨ b = w3.heap.size) w3 w6 := hf5.trans hf6 fun i hi _ => .inr hi
  have hlp := hT _ _ hg
  refine Br.of (fun c => ?_) (fun c => ?_)
  ·have c := zQ6 c
   obtain ⟨w7, hd, hi7, hf7, hs7⟩ := hi6.drop (P := prog) (r0 := 0) (tys := #[80, 3]) zV8 rfl xZd (x := p.1) (by rw [← AL.get_none, AL.get_del hi.nodup, if_pos rfl])
   refine ⟨some d.L, by rw [zQe, zQo hb6]; rfl, w7, hd, ?_⟩
   refine hJ (m - 1) _ _ (by omega) ⟨AL.del todo p.1, AL.del cur p.1, by omega, hi7, hT6, fun k => ?_, hf36.trans hf7 fun i hi _ => .inl hi, hf7.blk hb6 (Ne.symm hLS), hm6.fr hf7 (by omega)⟩
   rw [AL.get_del hi6.map.nodup, AL.get_del hi.nodup]
   by_cases e : p.1 = k
   ·subst e
    simp [hlp, c]
   ·simp only [if_neg e]; exact hC k
  ·have c := zQm c
   refine hJ (m - 1) _ _ (by omega) ⟨AL.del todo p.1, cur, by omega, hi6, hT6, fun k => ?_, hf36, hb6, hm6⟩
   rw [AL.get_del hi.nodup, hC]
   by_cases e : p.1 = k
   ·subst e
    simp [hlp, hg, c]
   ·simp only [if_neg e]
end Go.Proofs.YtcihcbfcgjepfaaGreatDoor
/- Desks: Revert, Fall. No condition but those stated. -/
namespace Go.Proofs.YtcihcbfcgjepfaaGreatDoor
open Go.Sh Go.RowKit Tryz
variable {w w' : World} {d d' : zQr} {val : Nat -> List Val} {mu : Int}
def zQr.cln (d : zQr) (u r : Nat) (lk' : Int -> Option Int) : zQr := { d.gen u (fun b => if b = r then some (.C u) else d.o b) d.rs d.rh ⟨none, 0, 0⟩ [] (d.cs u) [] r with lk := lk' }
theorem nd_oth {u : Nat} (hu : u < 4) (h : (vB (zXf d)).Nodup) : (vB (zXa d u)).Nodup := by
 have := (yZo hu).1 h
 rw [zQt] at this
 exact (List.nodup_append.1 this).2.1
theorem yJ1 (h : zQh w d 1 val) {u : Nat} (hu : u < 4) :
  Calls prog 116 #[d.ptr, .int .i64 (u : Int), .pointer (some (uA d u))] w fun e w' => e = .returned (.tuple #[]) /\ ∃ d', zQ4 w w' d d' 1 val /\ zQa d' val = zX2 u (zQa d val) := by
 obtain ⟨l, hl, hk⟩ := h.lm
 have hLS : d.L ≠ d.S := fun e => by have := h.bd.oL; rw [e, h.bd.oS] at this; cases this
 refine (zY5 h.st hl hLS hu).mono ?_
 rintro e w' ⟨rfl, hst, hm, hf, l', hl', hk'⟩
 have ho : d.o w.heap.size = none := h.bd.out (Nat.le_refl _)
 have ne : ∀ {b : Nat} {κ : zX4}, d.o b = some κ -> κ ≠ .S -> κ ≠ .L -> ¬ (b = d.S ∨ b = d.L) := fun {b κ} hb h1 h2 e => by
  rcases e with e | e
  ·rw [e, h.bd.oS] at hb; exact h1 (Option.some.inj hb).symm
  ·rw [e, h.bd.oL] at hb; exact h2 (Option.some.inj hb).symm
 have up : ∀ {b : Nat} {κ : zX4}, d.o b = some κ -> (if b = w.heap.size then some (.C u) else d.o b) = some κ := fun {b κ} hb => by
  rw [if_neg fun e => by rw [e, ho] at hb; cases hb]; exact hb
 refine ⟨rfl, d.cln u w.heap.size fun k => if d.lk k = some (u : Int) then none else d.lk k, ⟨⟨hst, ?_, h.sd⟩, hf.mono fun i hi _ => ?_, fun b hb => ?_, rfl⟩, ?_⟩
 ·refine h.bd.genL hu hf ⟨l', hl', fun k => ?_⟩ (up h.bd.oL) (fun b κ hb k0 k1 k2 k3 k4 => ⟨ne hb k1 k0, up hb⟩) (up h.bd.oS) (h.bd.rw_.fr hf fun b hb => ne (h.bd.oR b hb) (by simp) (by simp)) (fun b hb => up (h.bd.oR b hb)) (zQj.nil _ _ _) (by simp [zQb]) (fun _ => ⟨hm, if_pos rfl⟩) (fun e => absurd (h.sd.symm.trans e) (by simp)) (fun x hx => ?_) ?_ (fun b hb => ?_)
  ·rw [hk', hk, h.sd]
   split
   ·rfl
   ·cases d.lk k <;> rfl
  ·simp only [List.append_nil, chH, List.flatMap_nil, List.nil_append] at hx
   exact .inl ⟨x, zQK hx, rfl⟩
  ·have e : zXa d u = d.rh ++ (zXa d u).drop d.rh.length := by simp [zXa]
   simp only [zKM, chH, List.flatMap_nil, List.nil_append, ← e]
   exact nd_oth hu h.bd.nd
  ·by_cases e : b = w.heap.size
   ·rw [e]; exact hm.lt
   ·rw [if_neg e] at hb
    exact Nat.lt_of_lt_of_le (h.bd.lt b hb) hf.size
 ·rcases hi with rfl | rfl
  ·rw [h.bd.oS]; simp
  ·rw [h.bd.oL]; simp
 ·by_cases e : b = w.heap.size
  ·right; omega
  ·left
   have hb : (if b = w.heap.size then some (zX4.C u) else d.o b) ≠ none := hb
   rwa [if_neg e] at hb
 ·have e1 : zQa (d.cln u w.heap.size fun k => if d.lk k = some (u : Int) then none else d.lk k) val = { zQa (d.gen u (fun b => if b = w.heap.size then some (.C u) else d.o b) d.rs d.rh ⟨none, 0, 0⟩ [] (d.cs u) [] w.heap.size) val with lk := fun k => if d.lk k = some (u : Int) then none else d.lk k } := rfl
  rw [e1, zWq]
  rfl
theorem yQQ (h : zQh w d 1 val) (hI : Inv (zQa d val)) {u : Nat} (hu : u < 4) (hc : (d.ch u).length <= 1000000) :
  Calls prog 58 #[d.ptr, .int .i64 (u : Int), .pointer (some (uA d u))] w fun e w' => e = .returned (.int .i64 (((d.ch u).length + (d.ah u).length : Nat) : Int)) /\ ∃ d', zQ4 w w' d d' 1 val /\ zQa d' val = revertU u (zQa d val) := by
 refine yWV _ _ _ w _ (zQf fun w1 hp1 _ => ?_)
 have h1 := h.pu hp1
 have ha := hI.ah hu
 have hal := h.as_len hu
 have eA : ((zQa d val).us u).at_ = d.at_ u := rfl
 have ew : IntKind.i64.wrap (((d.ch u).length : Nat) + (((d.asv u).len : Nat) : Int)) = (((d.ch u).length + (d.ah u).length : Nat) : Int) := by rw [zQc (by omega) (by omega)]; omega
 refine ⟨some (d.C u), h1.uCh hu, _, (h1.mp hu).len rfl xXV, d.asv u, h1.uAp hu, d.at_ u, h1.uAt hu, Br.of (fun c => ?_) (fun c => ?_)⟩
 ·have c := zQn c
  rw [zQ9, zQe]
  refine h1.own (d' := d.withAt u 0) (mu' := 1) (by omega) (zJ1 hu 0) rfl rfl (fun x hb => hb.same _ _) fun w3 h3 hf3 hs3 => ?_
  have L3 : zQ4 w w3 d (d.withAt u 0) 1 val := (zQ4.pu h hp1).trans ⟨h3, hf3.mono fun i hi _ => by rw [show i = d.S from hi, h.bd.oS]; simp, fun _ h => .inl h, rfl⟩
  refine Calls.mono (yJ1 h3 hu) ?_
  rintro e w' ⟨rfl, d', hL, habs⟩
  refine ⟨rfl, by rw [ew], d', L3.trans hL, ?_⟩
  rw [habs, zVu, revertU, eA, if_pos c]
 ·have c := zQg c
  refine Calls.mono (yJ1 h1 hu) ?_
  rintro e w' ⟨rfl, d', hL, habs⟩
  refine ⟨rfl, by rw [ew], d', (zQ4.pu h hp1).trans hL, ?_⟩
  rw [habs, revertU, eA, if_neg c]
  congr 1
  simp only [Dsk.setU]
  have : (fun v => if v = u then ({ mode := ((zQa d val).us u).mode, at_ := d.at_ u, ch := ((zQa d val).us u).ch, ap := ((zQa d val).us u).ap } : Usr) else (zQa d val).us v) = (zQa d val).us := by
   funext v
   by_cases e : v = u
   ·rw [if_pos e, e]; rfl
   ·rw [if_neg e]
  rw [this]
theorem Inv.chl (h : Inv (zQa d val)) {u : Nat} (hu : u < 4) : (d.ch u).length <= 300 := by
 have h1 := h.cn u hu
 have h2 : ∀ k ∈ ((zQa d val).us u).ch.map Prod.fst, k ∈ (List.range (zQa d val).recs.length).map fun (i : Nat) => (i : Int) + 1 := fun k hk => by
  obtain ⟨c, hc, rfl⟩ := List.mem_map.1 hk
  have := (h.gc u hu c hc).2
  exact List.mem_map.2 ⟨(c.1 - 1).toNat, List.mem_range.2 (by omega), by omega⟩
 have h3 := List.Nodup.length_le_of_subset h1 h2
 have h4 := h.r300
 simp only [List.length_map, List.length_range] at h3
 have h5 : ((zQa d val).us u).ch.length = (d.ch u).length := zVc
 omega
theorem yV5 (h : zQh w d 0 val) (hI : Inv (zQa d val)) (u : Int) :
  Calls prog 22 #[d.ptr, .int .i64 u] w fun e w' => e = .returned (.tuple #[.int .i64 ((revertN u (zQa d val) : Nat) : Int), .int .i64 (uC u)]) /\ ∃ d', zQ4 w w' d d' 0 val /\ zQa d' val = revertS u (zQa d val) := by
 refine yVb _ u w _ ((zQM h (Pu.refl w) u).mono ?_)
 rintro e w2 ⟨rfl, h2, hf2, hs2⟩
 refine ⟨_, _, _, rfl, Br.of (fun c => ?_) (fun c => ?_)⟩
 ·have hu := zJW c
  exact h2.left fun w' hL _ _ => ⟨by rw [revertN, if_neg hu]; rfl, d, hL, by rw [revertS, if_neg hu]⟩
 have hu := zJM c
 obtain ⟨n, rfl, hn⟩ := zQS hu
 rw [zKL hn]
 refine (yQQ h2.at_ hI hn (by have := hI.chl hn; omega)).mono ?_
 rintro e w3 ⟨rfl, d', hL, habs⟩
 have e1 : uC (n : Int) = 0 := by rw [uC, if_pos hu]
 refine ⟨_, rfl, ?_⟩
 have LL := h2.dl.trans hL
 rw [← show d'.ptr = d.ptr by unfold zQr.ptr; rw [hL.ptr]]
 refine zQW LL fun w' hL' _ _ => ⟨?_, d', hL', by rw [habs, revertS, if_pos hu, zQL]⟩
 rw [e1, revertN, if_pos hu, zQL, zVc, zX0]
theorem fall_c (h : zQh w d 0 val) (hI : Inv (zQa d val)) (u : Int) :
  Calls prog 31 #[d.ptr, .int .i64 u] w fun e w' => e = .returned (.int .i64 (uC u)) /\ ∃ d', zQ4 w w' d d' 0 val /\ zQa d' val = fallS u (zQa d val) := by
 refine yWk _ u w _ ((zQM h (Pu.refl w) u).mono ?_)
 rintro e w2 ⟨rfl, h2, hf2, hs2⟩
 refine ⟨_, _, _, rfl, Br.of (fun c => ?_) (fun c => ?_)⟩
 ·have hu := zJW c
  exact h2.left fun w' hL _ _ => ⟨rfl, d, hL, by rw [fallS, if_neg hu]⟩
 have hu := zJM c
 obtain ⟨n, rfl, hn⟩ := zQS hu
 rw [zKL hn]
 refine (yQQ h2.at_ hI hn (by have := hI.chl hn; omega)).mono ?_
 rintro e w3 ⟨rfl, d', hL, habs⟩
 have e1 : uC (n : Int) = 0 := by rw [uC, if_pos hu]
 have eu : uA d n = uA d' n := by show (⟨d.S, _, _⟩ : Addr) = ⟨d'.S, _, _⟩; rw [hL.ptr]
 refine ⟨_, rfl, ?_⟩
 rw [zQ9, eu]
 refine hL.sys.own (d' := d'.withMode n 0) (mu' := 1) (by omega) (zVx hn 0) rfl rfl (fun x hb => hb.same _ _) fun w5 h5 hf5 hs5 => ?_
 rw [zQ9, zQe]
 refine h5.own (d' := (d'.withMode n 0).withAt n 0) (mu' := 1) (by omega) (zJ1 hn 0) rfl rfl (fun x hb => hb.same _ _) fun w7 h7 hf7 hs7 => ?_
 have L7 : zQ4 w w7 d ((d'.withMode n 0).withAt n 0) 1 val := (h2.dl.trans hL).trans ⟨h7, (hf5.trans hf7 fun i hi _ => hi).mono fun i hi _ => by rw [show i = d'.S from hi, hL.sys.bd.oS]; simp, fun _ h => .inl h, rfl⟩
 rw [← show ((d'.withMode n 0).withAt n 0).ptr = d.ptr by unfold zQr.ptr; rw [L7.ptr]]
 refine zQW L7 fun w' hL' _ _ => ⟨by rw [e1], _, hL', ?_⟩
 rw [zVu, zKQ, habs, fallS, if_pos hu, zQL]
 simp only [Dsk.setU, Dsk.mk.injEq, true_and, and_true]
 funext v
 by_cases e : v = n
 ·simp [e]
 ·simp [e]
end Go.Proofs.YtcihcbfcgjepfaaGreatDoor
/- The library's iterator over the keys of a map with keys of numbers, maps.Keys; slices.AppendSeq, Sort, Sorted of numbers. No condition but the reach's. -/
set_option linter.unusedSectionVars false
namespace Go.Proofs.YtcihcbfcgjepfaaGreatDoor
open Go.RowKit Go.Shelf Go.Sh Go.Sort Tryz
attribute [local go_sem] Oper.semAt_some
abbrev yVS (n₀ : Nat) (A B : World) : Prop := Below n₀ A B /\ KeepsWalks A B
theorem zW9 {W W' : World} (h : KeepsOthers W W') : KeepsWalks W W' :=
 ⟨h.size, fun k o hk ho => h.same k o hk (Obj.not_cells_of_walk ho)⟩
theorem yVw : (prog.info? 3).map (fun i => (i.zero, i.size, i.bytes)) = some (some (.int .i64 0), 1, 8) := by kernel_rfl
set_option maxHeartbeats 2000000 in
theorem zYU (F : Fence) (n : Nat) (h11 : F.fn 201) (hro : F.round = none) (hn : 2 <= n) (g : Nat) (lb : Array Value) (hFg : F.fn g) (eg : ∀ args w, (callFunc g args).run prog w = .ok (.enter g args) w)
  (S Sp : List Int -> Prop) (N : Nat) (hN : N <= maxLen) (hNb : N * 16 <= 140737488355328) (n₀ : Nat) (w : World) (hn₀ : n₀ <= w.heap.size) (hseq : SeqStopsK F (n - 1) prog g lb (fun x : Int => #[zXu x]) (yVS n₀) S Sp N w) :
  CallsIn F n prog 201 #[.slice none 0 0, .func (.func g) #[] lb] w fun e W' => ∃ v xs, e = .returned v /\ S xs /\ W'.ownsRow w.heap.size 3 1 v xs.length (xs.map zXu) /\ Below w.heap.size w W' := by
 have h1 : 1 <= n := by omega
 obtain ⟨i0, hi, hz0, hz1, hz2⟩ := info_parts yVw
 refine callsIn_of_wp_marks Tryz.func201 rfl h11 ?_ hro
 simp only [Tryz.ntmps201, List.size_toArray, List.length_cons, List.length_nil, Nat.reduceAdd, Nat.reduceSub, Array.replicate_succ, Array.replicate_zero, List.push_toArray, List.append_toArray, List.nil_append, List.cons_append]
 gi_wp2
 have bO := Boxed.new w 43 (.slice none 0 0)
 have hB0 : Below w.heap.size w (w.alloc (.cells #[.slice none 0 0] 43)) := (Below.refl _ w).alloc (Nat.le_refl _) _
 refine wpIn_rangeFunc_ownG hro h1 (gf := g) (lb := lb) rfl hFg eg hseq (fun h k => ⟨h.1.trans k.1, h.2.trans k.2⟩) (fun W l o o' hl ho hc hw => ⟨belowK_b hn₀ W l o o' (by simp at hl; omega) ho hc hw, KeepsWalks.putObj o' ho hw⟩) hB0 (fun _ => rfl)
  (fun pre W => (∃ v, Boxed W w.heap.size 43 v /\ W.ownsRow w.heap.size 3 1 v pre.length (pre.map zXu) /\ True) /\ Below w.heap.size w W)
  (fun _ _ _ => False)
  (OwnFrom.and (Own.from (holdsRow_own w.heap.size w.heap.size 43 3 1 (fun (pre : List Int) => pre.length) (fun pre => pre.map zXu) (fun pre v => True)) _) (ownFrom_below (Nat.le_refl _) (by simp)))
  (fun _ _ _ _ _ hs _ _ => hs)
  ⟨⟨.slice none 0 0, bO, World.ownsRow_nil _ _ _ _, trivial⟩, hB0⟩
  (fun x => { tmps := #[.slice none 0 0, .func (.func g) #[] lb, .pointer (some ⟨w.heap.size, 0, none⟩), undef, .slice none 0 0, .int .i64 x, .func (.func g) #[] lb, .int .i64 x, undef, undef, undef, undef, undef], defers := [] }) ?assign ?body ?done ?stop
 case assign =>
  intro l x W K hK
  gi_wp2
  exact hK
 case body =>
  rintro l pre x W ⟨⟨v, hv, hrow, _⟩, hB⟩ hlt
  have hc := hv.cell
  gi_wp2_with (gi_at_builtin; refine wpListIn_append_own _ rfl _ _ 43 rfl w.heap.size 3 i0 (.int .i64 0) 1 8 Tryz.underlying43 hi hz0 hz1 hz2 rfl (by decide) _ _ _ rfl (hrow.alloc _) ⟨W.heap.size, 0, none⟩ 1 1 [.int .i64 x] rfl rfl (cell_one_new _ _ _) (by simp [Value.oneCell']) (by omega) (by omega) (by have := hB.size; simp; omega) ?_; intro v' w1 hown' hgrow _; obtain ⟨g', cap', rfl⟩ := ownsRow_succ hown'; obtain ⟨hv1, hv2, hr2, hk2, hb2⟩ := hv.appended (by decide) hrow hB.size (Nat.le_refl _) hown' hgrow; have hc1 := hv1.cell; have hf1 := hv1.frozen)
  exact ⟨hk2.from _, ⟨hb2.mono hn₀, zW9 hk2⟩, ⟨_, hv2, by simpa using hr2, trivial⟩, hB.trans hb2⟩
 case done =>
  rintro D ys W hD hS ⟨⟨v, hv, hrow, _⟩, hB⟩ hK
  have hc := hv.cell
  gi_wp2
  refine ⟨by simp, .inl ⟨_, _, rfl, run_takeDeferred hK, ?_⟩⟩
  exact ⟨_, results_tmp rfl _ _ _, v, ys, rfl, hS, ownsRow_putObj hrow _ hK rfl, hB.trans (belowK_b (w := w) (Nat.le_refl _) W D _ _ (by simp at hD; omega) hK rfl rfl)⟩
 case stop =>
  rintro D c pre W _ _ h _
  exact h.elim
theorem yW9 {w : World} {b : Nat} {e : TypeId} {sz n : Nat} {s : SV} {vs : List Value} (h : w.ownsRow b e sz (.slice s.a s.len s.cap) n vs) (hn : n = s.len) : zQj w e sz s vs := by
 obtain ⟨h1, ⟨h2, h3⟩ | ⟨g, cap, cur, h2, h3, h4, h5, h6, h7, h8⟩⟩ := h
 ·simp only [Value.slice.injEq] at h2
  obtain ⟨e1, e2, e3⟩ := h2
  obtain ⟨a, l, c⟩ := s
  simp only at e1 e2 e3
  subst e1; subst e2; subst e3
  exact ⟨by rw [h1, hn], .inl rfl⟩
 ·simp only [Value.slice.injEq] at h2
  obtain ⟨e1, e2, e3⟩ := h2
  subst hn
  exact ⟨h1, .inr ⟨g, cur, e1, h4, by omega, by omega, by rw [e3]; exact h7, h8⟩⟩
theorem yZ0 (w : World) (s : SV) (l : List Int) (h : zQj w 3 1 s (l.map zXu)) (hl : l.length <= 140737488355328) :
  Calls prog 166 #[.slice s.a s.len s.cap] w fun e w' => e = .returned (.tuple #[]) /\ zQj w' 3 1 s ((l.mergeSort fun x y => decide (x <= y)).map zXu) /\ Fr (· ∈ zQb s) w w' := by
 have hlen : s.len = l.length := by have := h.1; simp at this; omega
 have hs := h
 obtain ⟨h1, rfl | ⟨g, cur, h3, h4, h5, h6, h7, h8⟩⟩ := h
 ·have hl0 : l = [] := List.eq_nil_of_length_eq_zero (by simpa using hlen.symm)
  subst hl0
  refine Calls.mono (Tryz.slices_Sort_int_none none 0 w) ?_
  rintro e w' ⟨rfl, rfl⟩
  exact ⟨rfl, by simpa using hs, Fr.refl _ _⟩
 ·have hcur : cur.toList.take l.length = l.map (Value.int .i64) := by
   rw [Nat.mul_one] at h8
   rw [← hlen, h8]
  have hH := holds_of_blockI h4 hcur
  have key := Tryz.slices_Sort_int g 0 s.cap l w hH (zQA h4) (by omega)
  rw [← hlen] at key
  rw [h3]
  refine Calls.mono key ?_
  rintro e w' ⟨rfl, n, os, rfl⟩
  refine ⟨rfl, ?_, ?_⟩
  ·have ho := ownsRow_sortedI (n := n) (os := os) (ts := l.mergeSort fun x y => decide (x <= y)) (ss := l) (by simp) (Nat.zero_le g) h4 (by omega) h6 h7
   rw [← hlen, ← h3] at ho
   exact yW9 ho rfl
  ·have hg := grownBy_sortedI (w := w) (g := g) (n := n) (os := os) (l.mergeSort fun x y => decide (x <= y)).toArray
   exact ⟨hg.os, hg.tape, hg.output, hg.size, fun k hk hn => hg.block k hk fun e => hn (by cases e; simp [zQb, h3])⟩
abbrev xZa (l : List Int) : List Int := l.mergeSort fun x y => decide (x <= y)
theorem yXM {l l' : List Int} (h : l.Perm l') : xZa l = xZa l' := by
 have tr : ∀ a b c : Int, decide (a <= b) = true -> decide (b <= c) = true -> decide (a <= c) = true := fun a b c h k => by simp at h k ⊢; omega
 have tot : ∀ a b : Int, (decide (a <= b) || decide (b <= a)) = true := fun a b => by simp; omega
 exact List.Perm.eq_of_pairwise (le := fun a b => decide (a <= b) = true) (fun a b _ _ h k => by simp at h k; omega) (List.pairwise_mergeSort tr tot l) (List.pairwise_mergeSort tr tot l') (((List.mergeSort_perm l _).trans h).trans (List.mergeSort_perm l' _).symm)
theorem yQJ {w : World} {b : Nat} {e : TypeId} {sz n : Nat} {s : SV} {vs : List Value} (h : w.ownsRow b e sz (.slice s.a s.len s.cap) n vs) (hn : n = s.len) : zQj w e sz s vs /\ ∀ k ∈ zQb s, b <= k := by
 obtain ⟨h1, ⟨h2, h3⟩ | ⟨g, cap, cur, h2, h3, h4, h5, h6, h7, h8⟩⟩ := h
 ·simp only [Value.slice.injEq] at h2
  obtain ⟨e1, e2, e3⟩ := h2
  obtain ⟨a, l, c⟩ := s
  simp only at e1 e2 e3
  subst e1 e2 e3
  exact ⟨⟨by rw [h1, hn], .inl rfl⟩, fun k hk => by simp [zQb] at hk⟩
 ·simp only [Value.slice.injEq] at h2
  obtain ⟨e1, e2, e3⟩ := h2
  subst hn
  rw [← e3] at h5 h6 h7
  exact ⟨⟨h1, .inr ⟨g, cur, e1, h4, h5, h6, h7, h8⟩⟩, fun k hk => by simp [zQb, e1] at hk; omega⟩
theorem yKl (g : Nat) (lb : Array Value) (eg : ∀ args w, (callFunc g args).run prog w = .ok (.enter g args) w) (S Sp : List Int -> Prop) (N : Nat) (hN : N <= 8796093022208) (w : World)
  (hS : ∀ xs, S xs -> xs.length <= N) (hseq : SeqStopsK Fence.wide 9 prog g lb (fun x : Int => #[zXu x]) (yVS w.heap.size) S Sp N w) :
  Calls prog 128 #[.func (.func g) #[] lb] w fun e w' => ∃ (s : SV) (xs : List Int), e = .returned (.slice s.a s.len s.cap) /\ S xs /\ zQj w' 3 1 s ((xZa xs).map zXu) /\ (∀ k ∈ zQb s, w.heap.size <= k) /\ Pu w w' := by
 refine yZB _ w _ ?_
 refine yZv _ w _ ?_
 have happ := callsIn_wide.1 (zYU Fence.wide 10 trivial rfl (by omega) g lb trivial eg S Sp N (by unfold maxLen; omega) (by omega) w.heap.size w (Nat.le_refl _) hseq)
 refine Calls.mono happ ?_
 rintro e w1 ⟨v, xs, rfl, hxs, hown, hB⟩
 obtain ⟨s, rfl, hn⟩ : ∃ s : SV, v = .slice s.a s.len s.cap /\ xs.length = s.len := by
  rcases hown.2 with ⟨e1, e2⟩ | ⟨g', cap, cur, e1, _⟩
  ·exact ⟨⟨none, 0, 0⟩, e1, e2⟩
  ·exact ⟨⟨some ⟨g', 0, none⟩, xs.length, cap⟩, e1, rfl⟩
 obtain ⟨hrow, hfresh⟩ := yQJ hown hn
 refine ⟨s, rfl, s, rfl, ?_⟩
 refine Calls.mono (yZ0 w1 s xs hrow (by have := hS xs hxs; omega)) ?_
 rintro e w2 ⟨rfl, hrow2, hf2⟩
 exact ⟨rfl, s, xs, rfl, hxs, hrow2, hfresh, Pu.andNew hB hf2 hfresh⟩
section
variable {κ ν : Type} [DecidableEq κ] {ek : κ -> Value} {ev : ν -> Value} {P : Program} {F : Fence} {n : Nat} {ops : Array Oper} {Q : Exit -> Act -> World -> Prop} {zQx : List Oper} {a : Act} {w : World} {o : Oper}
def yKp (r b : Nat) (w : World) : Nat := match w.heap[r]?, w.heap[b]? with
 | some (.mapIter _ _ seen _), some (.map es _) => (leftOf es seen).size
 | _, _ => 0
theorem zYF {r b : Nat} {l todo : List (κ × ν)} (h : zQQ w ek ev r b l todo) : yKp r b w = todo.length := by
 obtain ⟨es, clk, since, seen, c0, h1, h2, _, _, _, h6, _⟩ := h
 have := h6.length
 rw [Array.length_toList] at this
 simp only [yKp, h1, h2, this]
theorem yXJ {w' : World} {r b : Nat} {l todo : List (κ × ν)} (h : zQQ w ek ev r b l todo) (hk : KeepsWalks w w') (hb : w'.heap[b]? = w.heap[b]?) : zQQ w' ek ev r b l todo := by
 obtain ⟨es, clk, since, seen, c0, h1, h2, h3⟩ := h
 exact ⟨es, clk, since, seen, c0, hk.same r _ h1 rfl, hb.trans h2, h3⟩
theorem yJP {r b : Nat} {l todo : List (κ × ν)} (h : zQQ w ek ev r b l todo) : ∃ o : Obj, w.heap[r]? = some o /\ o.isWalk = true := by
 obtain ⟨es, clk, since, seen, c0, h1, _⟩ := h
 exact ⟨_, h1, rfl⟩
theorem yQC {w' : World} {r : Nat} (h : Fr (· = r) w w') : w.grownBy w' (some r) := ⟨h.os, h.tape, h.output, h.size, fun k hk hn => h.block k hk fun e => hn (by rw [e])⟩
theorem yQf {w' : World} (h : Pu w w') : w.grownBy w' none := ⟨h.os, h.tape, h.output, h.size, fun k hk _ => h.block k hk⟩
theorem zKm (hg : o.guard = none) (m : Operand) (t kt e : TypeId) (hop : o.op = Op.range t m) (ht : P.underlying t = some (.map kt e)) (b : Nat) (l : List (κ × ν)) (hm : a.eval m = .map (some b)) (h : zQ8 w ek ev b l)
  (hK : ∀ w', zQQ w' ek ev w.heap.size b l l -> Pu w w' -> w'.heap.size = w.heap.size + 1 -> wpListIn F n P ops Q zQx (a.put o.dst (.pointer (some ⟨w.heap.size, 0, none⟩))) w') : wpListIn F n P ops Q (o :: zQx) a w := by
 refine wpListIn_plain hg fun K' hK' => ?_
 obtain ⟨w', hrun, r1, r2, r3⟩ := h.range ht
 unfold Oper.wpIn
 refine ⟨?_, ?_⟩
 ·simp [Oper.about, hop]
 ·rw [Oper.semAt_plain F _ _ (by rw [hop]; intro c hc'; cases hc')]
  simp [execOp, hop, hm, hrun, Result.andThen]
  exact hK' _ _ (hK w' r1 r2 r3)
theorem zKK (hg : o.guard = none) (it : Operand) (hop : o.op = Op.next it false) (b r : Nat) (l todo : List (κ × ν)) (hit : a.eval it = .pointer (some ⟨r, 0, none⟩)) (h : zQQ w ek ev r b l todo)
  (hDone : todo = [] -> wpListIn F n P ops Q zQx (a.put o.dst (.tuple #[.bool false])) w)
  (hMore : ∀ p w', p ∈ todo -> Fr (· = r) w w' -> w'.heap.size = w.heap.size -> zQQ w' ek ev r b l (AL.del todo p.1) -> (Instr.entry (.pointer (some ⟨r, 0, none⟩))).run P w' = .ok (.tuple #[ek p.1, ev p.2]) w' -> wpListIn F n P ops Q zQx (a.put o.dst (.tuple #[.bool true, ek p.1, ev p.2])) w') :
  wpListIn F n P ops Q (o :: zQx) a w := by
 refine wpListIn_plain hg fun K' hK' => ?_
 unfold Oper.wpIn
 refine ⟨by simp [Oper.about, hop], ?_⟩
 rw [Oper.semAt_plain F _ _ (by rw [hop]; intro c hc'; cases hc')]
 rcases zQQ.next (P := P) h o.type with ⟨h0, hrun⟩ | ⟨p, hp, w', hrun, hf, hs, hI, hen⟩
 ·simp [execOp, hop, hit, hrun, Result.andThen]
  exact hK' _ _ (hDone h0)
 ·simp [execOp, hop, hit, hrun, Result.andThen]
  exact hK' _ _ (hMore p w' hp hf hs hI hen)
end
theorem yQl : ∃ e, prog.underlying 88 = some (.map 3 e) := ⟨133, by kernel_rfl⟩
set_option maxHeartbeats 2000000 in
theorem zYx {ν : Type} {ev : ν -> Value} (F : Fence) (n : Nat) (h10 : F.fn 167) (hro : F.round = none) (hn : 1 <= n) (l Bs n₀ b : Nat) (L : List (Int × ν)) (hb : b < n₀) (J Jx : List Int -> World -> Prop)
  (W : World) (hn₀ : n₀ <= W.heap.size) (hJ : AbidesFrom W.heap.size J)
  (hY : ∀ pre x W1, J pre W1 -> pre.length < L.length -> YieldAt F (n - 1) prog l #[.int .i64 x] W1 fun e W' =>
   (e = .returned (.bool true) /\ J (pre ++ [x]) W' /\ yVS n₀ W1 W') ∨ (e = .returned (.bool false) /\ Jx (pre ++ [x]) W'))
  (hBs : W.cell? ⟨Bs, 0, none⟩ = some (.map (some b))) (hM : zQ8 W zXu ev b L) (h0 : J [] W) :
  CallsIn F n prog 167 #[.func (.yield l) #[] #[], .pointer (some ⟨Bs, 0, none⟩)] W fun e W' => (∃ v, e = .returned v) /\
   ((∃ ys, ys.Perm (L.map Prod.fst) /\ J ys W') ∨ (∃ pre, True /\ Jx pre W')) := by
 obtain ⟨et, hund⟩ := yQl
 refine callsIn_of_wp Tryz.func167 rfl h10 ?_ hro
 simp only [Tryz.ntmps167, List.size_toArray, List.length_cons, List.length_nil, Nat.reduceAdd, Nat.reduceSub, Array.replicate_succ, Array.replicate_zero, List.push_toArray, List.append_toArray, List.nil_append, List.cons_append]
 gi_wp2_with (first
  | (gi_at_range; refine zKm rfl _ 88 3 et rfl hund b L rfl hM ?_; intro w0 hI0 hp0 hs0)
  | gi_in)
 go_frame
 gi_loopw [3] (fun _ wr => ∃ (todo : List (Int × ν)) (ss : List Int), zQQ wr zXu ev W.heap.size b L todo /\ (ss ++ todo.map Prod.fst).Perm (L.map Prod.fst) /\ J ss wr /\ n₀ <= wr.heap.size)
  (fun _ wr => yKp W.heap.size b wr)
 case atStart =>
  exact ⟨L, [], hI0, by simp, hJ [] W w0 none h0 (yQf hp0) (fun r e => by cases e), by omega⟩
 case round =>
  obtain ⟨todo, ss, hI, hperm, hJs, hnr⟩ := hrel
  gi_wp2_with (first
   | (gi_at_next; refine zKK rfl _ rfl b W.heap.size L todo rfl hI ?_ ?_)
   | gi_in)
  ·intro ht0
   subst ht0
   gi_wp2
   go_end0
   exact ⟨⟨_, rfl⟩, .inl ⟨ss, by simpa using hperm, hJs⟩⟩
  ·intro x c w2 hp hf hs hI2 hen
   have hJ2 : J ss w2 := hJ ss wr w2 (some W.heap.size) hJs (yQC hf) (fun r e => by cases e; exact ⟨Nat.le_refl _, yJP hI⟩)
   have hpd := AL.perm_del hp hI.nodup
   have hlen : ss.length < L.length := by
    have h1 := hperm.length_eq
    have h2 := hpd.length_eq
    simp at h1 h2
    omega
   obtain ⟨fn, tmps, assign, body, hy, hR⟩ := hY ss x w2 hJ2 hlen
   have hleft := zYF hI
   clear hs
   gi_wp2
   refine hR.mono ?_
   rintro e W3 (⟨rfl, hJ3, hB3, hK3⟩ | ⟨rfl, hJx3⟩)
   ·gi_wp2
    have hI3 := yXJ hI2 hK3 (hB3.block b hb)
    go_roundw
    case rel =>
     refine ⟨_, ss ++ [x], hI3, ?_, hJ3, by have := hf.size; have := hB3.size; omega⟩
     have h3 := hpd.map Prod.fst
     rw [List.append_assoc]
     exact ((List.Perm.append_left ss h3).symm).trans hperm
    case measure =>
     have h1 := zYF hI3
     have h2 := hpd.length_eq
     simp at h2
     omega
   ·gi_wp2
    refine bodyPost_ret (results_none rfl _ _ _) rfl ?_
    exact ⟨⟨_, rfl⟩, .inr ⟨ss ++ [x], trivial, hJx3⟩⟩
theorem zWL {ν : Type} {ev : ν -> Value} (F : Fence) (n : Nat) (h10 : F.fn 167) (hro : F.round = none) (hn : 1 <= n) (Bs b : Nat) (L : List (Int × ν)) (w : World) (hBs : Bs < w.heap.size)
  (hc : w.cell? ⟨Bs, 0, none⟩ = some (.map (some b))) (hM : zQ8 w zXu ev b L) :
  SeqStopsK F n prog 167 #[.pointer (some ⟨Bs, 0, none⟩)] (fun x : Int => #[zXu x]) (yVS w.heap.size) (fun ys => ys.Perm (L.map Prod.fst)) (fun _ => True) L.length w := fun l J Jx W hW hJ _ hY h0 => by
 have hM' : zQ8 W zXu ev b L := by
  have hbl := hM.lt
  obtain ⟨es, clk, h1, h2⟩ := hM
  exact ⟨es, clk, (hW.block b hbl).trans h1, h2⟩
 exact zYx F n h10 hro hn l Bs w.heap.size b L hM.lt J Jx W hW.size hJ hY ((hW.cell (p := ⟨Bs, 0, none⟩) hBs).trans hc) hM' h0
theorem zJ6 {ν : Type} {ev : ν -> Value} (w0 : World) (b : Nat) (L : List (Int × ν)) (hM : zQ8 w0 zXu ev b L) (hN : L.length <= 8796093022208) :
  Calls prog 128 #[.func (.func 167) #[] #[.pointer (some ⟨w0.heap.size, 0, none⟩)]] (w0.alloc (.cells #[.map (some b)] 88)) fun e w' => ∃ s' : SV, e = .returned (.slice s'.a s'.len s'.cap) /\ zQj w' 3 1 s' ((xZa (L.map Prod.fst)).map zXu) /\ (∀ k ∈ zQb s', w0.heap.size < k) /\ Pu w0 w' := by
 obtain ⟨w, hw⟩ : ∃ w, w = w0.alloc (.cells #[.map (some b)] 88) := ⟨_, rfl⟩
 have hp : Pu w0 w := by rw [hw]; exact Pu.alloc w0 _
 have hsz : w.heap.size = w0.heap.size + 1 := by rw [hw]; simp
 have hb : w.heap[w0.heap.size]? = some (.cells #[.map (some b)] 88) := by rw [hw]; exact zX5 w0 _
 rw [← hw]
 have hseq := zWL Fence.wide 9 trivial rfl (by omega) w0.heap.size b L w (by omega) (by rw [zQo hb]; rfl) (hM.pu hp)
 refine Calls.mono (yKl 167 #[.pointer (some ⟨w0.heap.size, 0, none⟩)] (enters_of Tryz.func167 (by kernel_rfl) rfl) _ _ L.length hN w (fun xs h => by have := h.length_eq; simp at this; omega) hseq) ?_
 rintro e w' ⟨s', xs, rfl, hxs, hrow, hf, hp'⟩
 rw [yXM hxs] at hrow
 exact ⟨s', rfl, hrow, fun k hk => by have := hf k hk; omega, hp.trans hp'⟩
end Go.Proofs.YtcihcbfcgjepfaaGreatDoor
